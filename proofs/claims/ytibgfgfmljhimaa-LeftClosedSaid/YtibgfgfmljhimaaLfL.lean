/-
  LeftClosed: what the law computes.
  Conditions: the grammar reads as data, within the reach.
-/
import Derived.Test.YtibgfgfmljhimaaLfK
import Derived.Test.YtibgfgfmljhimaaGAny
set_option linter.unusedVariables false
set_option linter.unusedSimpArgs false
set_option linter.unnecessarySimpa false
namespace Go.Proofs.Ytibgfgfmljhimaa
open Go.RowKit Go.MapKept Go.Shelf

/-- Who is among the told, or gone to by one of them. -/
def markB (g : Gr) (zs : List Int) (m : Nat) : Bool := zs.any fun z => decide (z = (m : Int)) || (toL g z).contains (m : Int)
theorem markB_iff {g : Gr} (hr : rightB g = true) {i : Nat} (m : Nat) : markB g ((graphG g).getD i []) m = true ↔ Tr (graphG g) i m := by
  have hG := graph_ok hr
  simp only [markB, List.any_eq_true, Bool.or_eq_true, decide_eq_true_eq, List.contains_eq_mem]
  constructor
  · rintro ⟨z, hz, h⟩
    have hzr := hG.at i z hz
    obtain ⟨q, rfl⟩ : ∃ q : Nat, z = q := ⟨z.toNat, by omega⟩
    rcases h with h | h
    · obtain rfl : q = m := by omega
      exact .one hz
    · exact .step hz ((toL_mem hr (by omega) m).1 h)
  · intro t
    cases t with
    | one h => exact ⟨_, h, .inl rfl⟩
    | step h t =>
      have hzr := hG.at i _ h
      exact ⟨_, h, .inr ((toL_mem hr (by omega) m).2 t)⟩
theorem to_mark {g : Gr} (hr : rightB g = true) {i : Nat} (hi : i < g.rules.length) (m : Nat) : (toL g i).contains (m : Int) = markB g ((graphG g).getD i []) m := by
  rw [Bool.eq_iff_iff, markB_iff hr m]
  simp only [List.contains_eq_mem, decide_eq_true_eq]
  exact toL_mem hr hi m
theorem goes_mark {g : Gr} (hr : rightB g = true) {i : Nat} (hi : i < g.rules.length) : goesB g i = markB g ((graphG g).getD i []) i := by
  rw [Bool.eq_iff_iff, markB_iff hr i]
  exact goesB_iff hr hi
def backB (g : Gr) (i n : Nat) : Bool := (List.range n).any fun k => markB g ((graphG g).getD i []) k && (((graphG g).getD k []).contains (i : Int) && goesB g k)
theorem backB_succ (g : Gr) (i n : Nat) : backB g i (n + 1) = (backB g i n || (markB g ((graphG g).getD i []) n && (((graphG g).getD n []).contains (i : Int) && goesB g n))) := by
  simp [backB, List.range_succ, List.any_append]
theorem back_of {g : Gr} (hr : rightB g = true) {i : Nat} (hi : i < g.rules.length) (h : markB g ((graphG g).getD i []) i = true) : backB g i g.rules.length = true := by
  have hG := graph_ok hr
  have t := (markB_iff hr i).1 h
  have key : ∃ k, Tr (graphG g) i k ∧ (i : Int) ∈ (graphG g).getD k [] := by
    rcases t.last with h | ⟨z, h1, h2⟩
    · exact ⟨i, t, h⟩
    · exact ⟨z, h1, h2⟩
  obtain ⟨k, h1, h2⟩ := key
  have hk := tr_lt hG h1
  simp only [backB, List.any_eq_true, List.mem_range, Bool.and_eq_true, List.contains_eq_mem, decide_eq_true_eq]
  exact ⟨k, hk, (markB_iff hr k).2 h1, h2, (goesB_iff hr hk).2 (.step h2 h1)⟩
/-! ### Lists of marks -/
def inL (g : Gr) (n : Nat) (zs : List Int) : List Bool := (List.range n).map fun m => markB g zs m
def inF (g : Gr) (n : Nat) (zs : List Int) (q : Nat) (far : List Int) : List Bool := (List.range n).map fun m => markB g zs m || (decide (q = m) || far.contains (m : Int))
theorem inL_nil (g : Gr) (n : Nat) : inL g n [] = List.replicate n false := by
  refine List.ext_getElem (by simp [inL]) (fun k h1 h2 => ?_)
  simp [inL, markB]
theorem inL_len (g : Gr) (n : Nat) (zs : List Int) : (inL g n zs).length = n := by simp [inL]
theorem inF_len (g : Gr) (n : Nat) (zs : List Int) (q : Nat) (far : List Int) : (inF g n zs q far).length = n := by simp [inF]
theorem inF_start (g : Gr) (n : Nat) (zs : List Int) {q : Nat} (hq : q < n) : (inL g n zs).set q true = inF g n zs q [] := by
  refine List.ext_getElem (by simp [inL, inF]) (fun k h1 h2 => ?_)
  rw [List.getElem_set]
  simp only [inL, inF, List.getElem_map, List.getElem_range]
  by_cases e : q = k
  · rw [if_pos e]; simp [e]
  · rw [if_neg e]; simp [e]
theorem inF_succ (g : Gr) (n : Nat) (zs : List Int) (q : Nat) (far : List Int) {m : Nat} : (inF g n zs q far).set m true = inF g n zs q (far ++ [(m : Int)]) := by
  refine List.ext_getElem (by simp [inF]) (fun k h1 h2 => ?_)
  rw [List.getElem_set]
  simp only [inF, List.getElem_map, List.getElem_range, List.contains_eq_mem, List.mem_append, List.mem_singleton]
  by_cases e : m = k
  · rw [if_pos e]; simp [e]
  · have : ¬ ((k : Int) = (m : Int)) := by omega
    rw [if_neg e]; simp [this]
theorem inF_end (g : Gr) (n : Nat) (zs : List Int) (q : Nat) : inF g n zs q (toL g q) = inL g n (zs ++ [(q : Int)]) := by
  refine List.map_congr_left (fun m _ => ?_)
  simp only [markB, List.any_append, List.any_cons, List.any_nil, Bool.or_false]
  have : decide ((q : Int) = (m : Int)) = decide (q = m) := by
    by_cases e : q = m
    · simp [e]
    · have : ¬ ((q : Int) = (m : Int)) := by omega
      simp [e, this]
  rw [this]
theorem inL_at (g : Gr) {n m : Nat} (zs : List Int) (hm : m < n) : (inL g n zs)[m]? = some (markB g zs m) := by simp [inL, hm]

set_option maxRecDepth 100000 in
set_option maxHeartbeats 16000000 in
theorem leftClosedLaw_any (w : World) (a1 : Option Addr) (n1 c1 : Nat) (a2 : Option Addr) (n2 c2 : Nat) (g : Gr) (hg : GramAt w a1 n1 c1 a2 n2 c2 g) (hre : Reach g) :
    Calls Try.prog 11 #[.agg #[.slice a1 n1 c1, .slice a2 n2 c2]] w fun e w' => e = .returned (.bool true) ∧ Chg [] w w' := by
  have H := Lib.hid (And.intro hg (And.intro hre (And.intro hg.e1 hg.e2)))
  clear hg hre
  go_enter Try.func11, Try.ntmps11
  go_wp2_with fail
  refine (awake12_any _).mono ?_
  rintro e w1 ⟨rfl, hc1⟩
  have hb1 := hc1.heap (heap_alloc_same _ _) (by simp)
  have H1 := Lib.hid (And.intro hb1 (((Chg.refl [] w).alloc _).tr0 hc1))
  clear hc1 hb1
  obtain ⟨x0, x1⟩ := cells2 H1.out.1
  go_wp2_with fail
  refine (size12_any _ a1 n1 c1 a2 n2 c2 g (H.out.1.keep H1.out.2.kp) H.out.2.1).mono ?_
  rintro e w2 ⟨m, rfl, hm1, hm2, hc2⟩
  have H2 := Lib.hid (And.intro (hc2.heap H1.out.1 (by simp)) (H1.out.2.tr hc2))
  clear hc2 x0 x1
  by_cases hm : (300 : Int) < m
  · go_wp2_with fail
    go_ret
    exact ⟨rfl, H2.out.2⟩
  · clear hm1 hm2
    obtain ⟨x0, x1⟩ := cells2 H2.out.1
    go_wp2_with fail
    refine (Graph_any _ a1 n1 c1 a2 n2 c2 g (H.out.1.keep H2.out.2.kp) H.out.2.1).mono ?_
    rintro e w3 ⟨ga, gc, VS, rfl, hVS, hO, hc3⟩
    have H3 := Lib.hid (And.intro (hc3.heap H2.out.1 (by simp)) (And.intro (H2.out.2.tr hc3) (And.intro hVS hO)))
    clear hc3 hVS hO x0 x1
    obtain ⟨x0, x1⟩ := cells2 H3.out.1
    obtain ⟨gn, hgn⟩ : ∃ gn, gn = (graphG g).length := ⟨_, rfl⟩
    rw [← hgn]
    have HGN := Lib.hid hgn
    clear hgn
    go_wp2_with fail
    refine (Right_any _ a1 n1 c1 a2 n2 c2 g (H.out.1.keep H3.out.2.1.kp)).mono ?_
    rintro e w4 ⟨rfl, hc4⟩
    have H4 := Lib.hid (And.intro (hc4.heap H3.out.1 (by simp)) (And.intro (H3.out.2.1.tr hc4) (And.intro H3.out.2.2.1 (H3.out.2.2.2.chg0 hc4))))
    clear hc4 x0 x1
    obtain ⟨x0, x1⟩ := cells2 H4.out.1
    cases hr : rightB g with
    | false =>
      have e0 : gn = 0 := by rw [HGN.out]; simp [graphG, hr]
      have e1 : toL g 0 = [] := by rw [toL, if_neg (fun h => by have := h.2.2; rw [hr] at this; cases this)]
      have e2 : goesB g 0 = false := by rw [goesB, decide_eq_false (fun h => by have := h.2.2; rw [hr] at this; cases this)]; rfl
      have HE := Lib.hid (And.intro e1 e2)
      clear hr HGN e1 e2
      subst e0
      go_wp2_with fail
      refine (To_any _ a1 n1 c1 a2 n2 c2 g (H.out.1.keep H4.out.2.1.kp) H.out.2.1 0).mono ?_
      rw [HE.out.1]
      rintro e w5 ⟨ta, tc, rfl, -, hc5⟩
      have H5 := Lib.hid (And.intro (hc5.heap H4.out.1 (by simp)) (H4.out.2.1.tr hc5))
      clear hc5 x0 x1
      obtain ⟨x0, x1⟩ := cells2 H5.out.1
      go_wp2_with fail
      have hp := Goes_any _ a1 n1 c1 a2 n2 c2 g (H.out.1.keep H5.out.2.kp) H.out.2.1 0
      rw [HE.out.2] at hp
      refine hp.mono ?_
      rintro e w6 ⟨rfl, hc6⟩
      have H6 := Lib.hid hc6
      clear hc6 hp x0 x1
      go_wp2_with fail
      go_ret
      exact ⟨rfl, H5.out.2.tr H6.out⟩
    | true =>
      have hgn1 : gn = n1 := by rw [HGN.out, graphG_len hr]; exact H.out.2.2.1.symm
      have hn32 : n1 ≤ 32 := by have := (right_sizes hr).2.1; have := H.out.2.2.1; omega
      have HR := Lib.hid (And.intro hr (And.intro HGN.out hgn1))
      clear hr HGN
      subst hgn1
      go_wp2_with fail
      clear x0 x1
      go_loopg [4] gn (fun d iv wr => ∃ i : Nat, d = gn - i ∧ i ≤ gn ∧ iv = .int .i64 i ∧ Hid (Chg [] w4 wr))
      case atStart => exact ⟨0, rfl, Nat.zero_le _, rfl, Lib.hid (Chg.refl _ _)⟩
      case round =>
        obtain ⟨i, rfl, hi, rfl, hin⟩ := hrel
        obtain ⟨wq, rfl⟩ : ∃ wz, wz = wr := ⟨_, rfl⟩
        obtain ⟨x0, x1⟩ := cells2 (hin.out.heap H4.out.1 (by simp))
        by_cases hlt : i < gn
        · go_wp2_with fail
          refine (To_any _ a1 gn c1 a2 n2 c2 g (H.out.1.keep (H4.out.2.1.tr hin.out).kp) H.out.2.1 i).mono ?_
          rintro e w5 ⟨ta, tc, rfl, hf5, hc5⟩
          obtain ⟨tl, htl⟩ : ∃ tl, tl = (toL g i).length := ⟨_, rfl⟩
          rw [← htl]
          have hz := run_falses gn (by omega)
          have H5 := Lib.hid (And.intro htl (And.intro hf5 (And.intro (hin.out.tr hc5) hc5)))
          clear htl hf5 hc5 x0 x1
          go_wp2_with fail
          obtain ⟨w6, e6⟩ : ∃ w6, w6 = w5.alloc (rowB (List.replicate gn false)) := ⟨_, rfl⟩
          have hc6 : Chg [] w5 w6 := by rw [e6]; exact (Chg.refl _ _).alloc _
          have hrow : w6.heap[w5.heap.size]? = some (rowB (inL g gn [])) := by rw [e6, inL_nil]; exact heap_alloc_same _ _
          have H6 := Lib.hid (And.intro hrow (And.intro (H5.out.2.2.1.tr hc6) hc6))
          rw [← e6]
          clear hz e6 hc6 hrow
          have hVl : i < VS.length := by
            have := congrArg List.length H4.out.2.2.1
            rw [List.length_map, ← HR.out.2.1] at this
            omega
          obtain ⟨gb, rfl, hgb, hgc⟩ := H4.out.2.2.2.at hVl
          have hints := H4.out.2.2.2.ints hVl
          obtain ⟨zs, hzs⟩ : ∃ zs, zs = (graphG g).getD i [] := ⟨_, rfl⟩
          have hrowe : VS[i].2.2 = zs := by
            have h1 : (VS.map (·.2.2))[i]? = some VS[i].2.2 := by simp [hVl]
            rw [H4.out.2.2.1] at h1
            rw [hzs, List.getD, h1]; rfl
          rw [hrowe] at hints
          obtain ⟨zl, hzl⟩ : ∃ zl, zl = zs.length := ⟨_, rfl⟩
          obtain ⟨za, hza⟩ : ∃ za, za = VS[i].1 := ⟨_, rfl⟩
          obtain ⟨zc, hzc⟩ : ∃ zc, zc = VS[i].2.1 := ⟨_, rfl⟩
          simp only [Is.cell, hrowe] at hgc
          rw [← hzl, ← hza, ← hzc] at hgc
          rw [← hza] at hints
          have hzs32 : zl ≤ 32 := by
            rw [hzl, ← hrowe]
            have : VS[i].2.2 ∈ graphG g := by rw [← H4.out.2.2.1]; exact List.mem_map_of_mem (List.getElem_mem hVl)
            exact (graph_ok HR.out.1).rows _ this
          have HZ := Lib.hid (And.intro hzs (And.intro hzl (And.intro hints hgc)))
          clear hzs hrowe hzl hza hzc hgc hints hVl hgb
          go_wp2_with fail
          go_loopg [7] zl (fun d iv wr => ∃ k : Nat, d = zl - k ∧ k ≤ zl ∧ iv = .int .i64 k ∧ Hid (Chg [w5.heap.size] w6 wr ∧ wr.heap[w5.heap.size]? = some (rowB (inL g gn (zs.take k)))))
          case atStart => exact ⟨0, rfl, Nat.zero_le _, rfl, Lib.hid ⟨Chg.refl _ _, H6.out.1⟩⟩
          case round =>
            obtain ⟨k, rfl, hk, rfl, hin2⟩ := hrel
            obtain ⟨wl, rfl⟩ : ∃ wz, wz = wr := ⟨_, rfl⟩
            have h4l : Chg [] w4 wl := H6.out.2.1.trans hin2.out.1 (fun j hj => .inr (by have := H5.out.2.2.1.size; simp at hj; omega))
            have g0 := h4l.cell HZ.out.2.2.2 (by simp)
            obtain ⟨x0, x1⟩ := cells2 (h4l.heap H4.out.1 (by simp))
            by_cases hltk : k < zl
            · have hkl : k < zs.length := by have := HZ.out.2.1; omega
              obtain ⟨bz, oz, rfl, hcz⟩ := (HZ.out.2.2.1.keep h4l.kp) k hkl
              obtain ⟨z, hz⟩ : ∃ z, z = zs[k] := ⟨_, rfl⟩
              rw [← hz] at hcz
              have hzr := (graph_ok HR.out.1).at i z (by rw [← HZ.out.1, hz]; exact List.getElem_mem hkl)
              obtain ⟨q, rfl⟩ : ∃ q : Nat, z = q := ⟨z.toNat, by omega⟩
              have hqn : q < gn := by have := H.out.2.2.1; omega
              have htk : zs.take (k + 1) = zs.take k ++ [(q : Int)] := by rw [hz]; exact List.take_succ_eq_append_getElem hkl
              obtain ⟨u, hu⟩ : ∃ u, (inL g gn (zs.take k))[q]? = some u := ⟨_, List.getElem?_eq_getElem (by rw [inL_len]; exact hqn)⟩
              have hcu := rowB_cell hin2.out.2 hu
              have hfu := rowB_free hin2.out.2 q
              have hst := rowB_set true hin2.out.2 (i := q)
              rw [inF_start g gn (zs.take k) hqn] at hst
              have hcs : Chg [w5.heap.size] w6 (wl.setCell ⟨w5.heap.size, q, none⟩ (.bool true)) := hin2.out.1.setCell (p := ⟨w5.heap.size, q, none⟩) (.inl (by simp)) _
              have h4s : Chg [] w4 (wl.setCell ⟨w5.heap.size, q, none⟩ (.bool true)) := H6.out.2.1.trans hcs (fun j hj => .inr (by have := H5.out.2.2.1.size; simp at hj; omega))
              have HK := Lib.hid (And.intro htk (And.intro hst (And.intro hcs h4s)))
              have g1 := h4s.cell HZ.out.2.2.2 (by simp)
              have hcz1 := (HZ.out.2.2.1.keep h4s.kp) k hkl
              obtain ⟨_, _, e1, hcz1⟩ := hcz1
              cases e1
              rw [← hz] at hcz1
              have hbx1 := h4s.heap H4.out.1 (by simp)
              have HS := Lib.hid (And.intro g1 (And.intro hcz1 hbx1))
              clear h4l hkl hz hzr htk hu hst hcs h4s g1 hcz1 hbx1
              go_wp2_with fail
              clear g0 x0 x1 hcz hcu hfu
              obtain ⟨ws, e7⟩ : ∃ ws, ws = wl.setCell ⟨w5.heap.size, q, none⟩ (.bool true) := ⟨_, rfl⟩
              rw [← e7] at HK HS ⊢
              clear e7
              refine wp_region_st (by kernel_rfl) (by kernel_rfl) [72, 73, 74, 75, 76, 77, 78, 79, 80, 8] (by kernel_rfl) (fun rI rV rW => match rI with | 0 => rV = .agg #[.slice a1 gn c1, .slice a2 n2 c2] | 1 => rV = .slice (some ⟨gb, 0, none⟩) gn gc | 2 => rV = .int .i64 i | 3 => rV = .pointer (some ⟨gb, i, none⟩) | 4 => rV = .slice (some ⟨bz, oz, none⟩) zl zc | 5 => rV = .int .i64 k | 6 => rV = .pointer (some ⟨bz, oz + k, none⟩) | 7 => rV = .int .i64 q | 8 => ∃ ta9 tc9, rV = .slice ta9 (toL g q).length tc9 ∧ FreshInts ws.heap.size rW ta9 tc9 (toL g q) | 9 => ∃ ta9 tc9, rV = .slice ta9 (toL g q).length tc9 ∧ FreshInts ws.heap.size rW ta9 tc9 (toL g q) | _ => True) ?hS14 ?hstep14 ?hdone14
              case hS14 =>
                intro rI rV rW rW' hc rP
                match rI, rP with
                | 0, rP => exact rP
                | 1, rP => exact rP
                | 2, rP => exact rP
                | 3, rP => exact rP
                | 4, rP => exact rP
                | 5, rP => exact rP
                | 6, rP => exact rP
                | 7, rP => exact rP
                | 8, rP => exact (by obtain ⟨ta9, tc9, e9, hp⟩ := rP; exact ⟨ta9, tc9, e9, hc.row hp (fun _ _ => by simp)⟩)
                | 9, rP => exact (by obtain ⟨ta9, tc9, e9, hp⟩ := rP; exact ⟨ta9, tc9, e9, hc.row hp (fun _ _ => by simp)⟩)
                | _ + 10, _ => trivial
              case hstep14 =>
                intro rI rH us W hC hdep K hK
                have hiN : rI < 10 := rH
                simp only [actU, Act.put, List.setIfInBounds_toArray, List.set_cons_succ, List.set_cons_zero, Nat.reduceAdd] at hK ⊢
                have g1 := hC.cell HS.out.1 (by simp)
                have hcz2 := hC.cell HS.out.2.1 (by simp)
                obtain ⟨x0, x1⟩ := cells2 (hC.heap HS.out.2.2 (by simp))
                rcases (show rI = 0 ∨ rI = 1 ∨ rI = 2 ∨ rI = 3 ∨ rI = 4 ∨ rI = 5 ∨ rI = 6 ∨ rI = 7 ∨ rI = 8 ∨ rI = 9 by omega) with rfl | rfl | rfl | rfl | rfl | rfl | rfl | rfl | rfl | rfl
                · simp only [List.getD_cons_succ, List.getD_cons_zero, List.setIfInBounds_toArray, List.set_cons_succ, List.set_cons_zero] at hK ⊢
                  refine wpOp_at rfl rfl ?_
                  go_simp
                  exact hK _ _ _ rfl (Chg.refl _ _) rfl
                · simp only [List.getD_cons_succ, List.getD_cons_zero, List.setIfInBounds_toArray, List.set_cons_succ, List.set_cons_zero] at hK ⊢
                  refine wpOp_at rfl rfl ?_
                  go_simp
                  exact hK _ _ _ rfl (Chg.refl _ _) rfl
                · simp only [List.getD_cons_succ, List.getD_cons_zero, List.setIfInBounds_toArray, List.set_cons_succ, List.set_cons_zero] at hK ⊢
                  refine wpOp_at rfl rfl ?_
                  go_simp
                  exact hK _ _ _ rfl (Chg.refl _ _) rfl
                · have l1 := hdep 1 (by kernel_rfl)
                  replace l1 : us 1 = .slice (some ⟨gb, 0, none⟩) gn gc := l1
                  have l2 := hdep 2 (by kernel_rfl)
                  replace l2 : us 2 = .int .i64 i := l2
                  simp only [List.getD_cons_succ, List.getD_cons_zero, List.setIfInBounds_toArray, List.set_cons_succ, List.set_cons_zero, l1, l2] at hK ⊢
                  refine wpOp_at rfl rfl ?_
                  go_simp
                  exact hK _ _ _ rfl (Chg.refl _ _) rfl
                · have l3 := hdep 3 (by kernel_rfl)
                  replace l3 : us 3 = .pointer (some ⟨gb, i, none⟩) := l3
                  simp only [List.getD_cons_succ, List.getD_cons_zero, List.setIfInBounds_toArray, List.set_cons_succ, List.set_cons_zero, l3] at hK ⊢
                  refine wpOp_at rfl rfl ?_
                  go_simp
                  exact hK _ _ _ rfl (Chg.refl _ _) rfl
                · simp only [List.getD_cons_succ, List.getD_cons_zero, List.setIfInBounds_toArray, List.set_cons_succ, List.set_cons_zero] at hK ⊢
                  refine wpOp_at rfl rfl ?_
                  go_simp
                  exact hK _ _ _ rfl (Chg.refl _ _) rfl
                · have l4 := hdep 4 (by kernel_rfl)
                  replace l4 : us 4 = .slice (some ⟨bz, oz, none⟩) zl zc := l4
                  have l5 := hdep 5 (by kernel_rfl)
                  replace l5 : us 5 = .int .i64 k := l5
                  simp only [List.getD_cons_succ, List.getD_cons_zero, List.setIfInBounds_toArray, List.set_cons_succ, List.set_cons_zero, l4, l5] at hK ⊢
                  refine wpOp_at rfl rfl ?_
                  go_simp
                  exact hK _ _ _ rfl (Chg.refl _ _) rfl
                · have l6 := hdep 6 (by kernel_rfl)
                  replace l6 : us 6 = .pointer (some ⟨bz, oz + k, none⟩) := l6
                  simp only [List.getD_cons_succ, List.getD_cons_zero, List.setIfInBounds_toArray, List.set_cons_succ, List.set_cons_zero, l6] at hK ⊢
                  refine wpOp_at rfl rfl ?_
                  go_simp
                  exact hK _ _ _ rfl (Chg.refl _ _) rfl
                · have l0 := hdep 0 (by kernel_rfl)
                  replace l0 : us 0 = .agg #[.slice a1 gn c1, .slice a2 n2 c2] := l0
                  have l7 := hdep 7 (by kernel_rfl)
                  replace l7 : us 7 = .int .i64 q := l7
                  simp only [List.getD_cons_succ, List.getD_cons_zero, List.setIfInBounds_toArray, List.set_cons_succ, List.set_cons_zero, l0, l7] at hK ⊢
                  refine wpOp_at rfl rfl ?_
                  go_simp
                  refine (To_any W a1 gn c1 a2 n2 c2 g (H.out.1.keep (H4.out.2.1.tr (HK.out.2.2.2.tr hC)).kp) H.out.2.1 q).mono ?_
                  rintro e wz ⟨ta9, tc9, rfl, hf, hz⟩
                  exact hK _ _ _ rfl hz ⟨ta9, tc9, rfl, row_base hf hC.size⟩
                · have l8 := hdep 8 (by kernel_rfl)
                  obtain ⟨ta9, tc9, l8, p8⟩ := l8
                  simp only [List.getD_cons_succ, List.getD_cons_zero, List.setIfInBounds_toArray, List.set_cons_succ, List.set_cons_zero, l8] at hK ⊢
                  refine wpOp_at rfl rfl ?_
                  go_simp
                  exact hK _ _ _ rfl (Chg.refl _ _) ⟨ta9, tc9, rfl, p8⟩
              case hdone14 =>
                intro us W hC hall
                have l0 := hall 0 (by decide)
                replace l0 : us 0 = .agg #[.slice a1 gn c1, .slice a2 n2 c2] := l0
                have l1 := hall 1 (by decide)
                replace l1 : us 1 = .slice (some ⟨gb, 0, none⟩) gn gc := l1
                have l2 := hall 2 (by decide)
                replace l2 : us 2 = .int .i64 i := l2
                have l3 := hall 3 (by decide)
                replace l3 : us 3 = .pointer (some ⟨gb, i, none⟩) := l3
                have l4 := hall 4 (by decide)
                replace l4 : us 4 = .slice (some ⟨bz, oz, none⟩) zl zc := l4
                have l5 := hall 5 (by decide)
                replace l5 : us 5 = .int .i64 k := l5
                have l6 := hall 6 (by decide)
                replace l6 : us 6 = .pointer (some ⟨bz, oz + k, none⟩) := l6
                have l7 := hall 7 (by decide)
                replace l7 : us 7 = .int .i64 q := l7
                have l8 := hall 8 (by decide)
                obtain ⟨ta9, tc9, l8, p8⟩ := l8
                have l9 := hall 9 (by decide)
                obtain ⟨ta9, tc9, l9, p9⟩ := l9
                simp only [actU, Act.put, List.setIfInBounds_toArray, List.set_cons_succ, List.set_cons_zero, Nat.reduceAdd, l0, l1, l2, l3, l4, l5, l6, l7, l8, l9]
                clear hall l0 l1 l2 l3 l4 l5 l6 l7 l8 l9
                obtain ⟨tl9, htl9⟩ : ∃ tl9, tl9 = (toL g q).length := ⟨_, rfl⟩
                rw [← htl9]
                have HF := Lib.hid (And.intro p9 (And.intro hC htl9))
                have htl32 : tl9 ≤ 32 := by rw [htl9]; exact toL_len _ _
                have hwsz := hC.size
                clear p9 hC htl9 p8
                go_wp2_with fail
                go_loopg [9] tl9 (fun d mv wr => ∃ m : Nat, d = tl9 - m ∧ m ≤ tl9 ∧ mv = .int .i64 m ∧ Hid (Chg [w5.heap.size] W wr ∧ wr.heap[w5.heap.size]? = some (rowB (inF g gn (zs.take k) q ((toL g q).take m)))))
                case atStart => exact ⟨0, rfl, Nat.zero_le _, rfl, Lib.hid ⟨Chg.refl _ _, HF.out.2.1.heap HK.out.2.1 (by simp)⟩⟩
                case round =>
                  obtain ⟨m, rfl, hm, rfl, hin3⟩ := hrel
                  obtain ⟨wm, rfl⟩ : ∃ wz, wz = wr := ⟨_, rfl⟩
                  by_cases hltm : m < tl9
                  · have hml : m < (toL g q).length := by have := HF.out.2.2; omega
                    obtain ⟨z, hz⟩ : ∃ z, z = (toL g q)[m] := ⟨_, rfl⟩
                    obtain ⟨q9, rfl, hq9⟩ := toL_in (g := g) (i := q) (z := z) (by rw [hz]; exact List.getElem_mem hml)
                    have hq9n : q9 < gn := by have := hq9 HR.out.1; have := H.out.2.2.1; omega
                    obtain ⟨b9, o9, rfl, hc9⟩ := (ownInts_read (FreshInts.own HF.out.1)).1 m hml
                    rw [← hz] at hc9
                    have hb9 : w5.heap.size ≠ b9 := by
                      rcases HF.out.1.2 with ⟨h0, _⟩ | ⟨G, cap, cur, h0, hb, _⟩
                      · cases h0
                      · cases h0
                        have := HK.out.2.2.1.size
                        have := lt_of_block H6.out.1
                        omega
                    have hcm := hin3.out.1.cell hc9 (by simp; exact fun e => hb9 e.symm)
                    obtain ⟨u, hu⟩ : ∃ u, (inF g gn (zs.take k) q ((toL g q).take m))[q9]? = some u := ⟨_, List.getElem?_eq_getElem (by rw [inF_len]; exact hq9n)⟩
                    have hcu := rowB_cell hin3.out.2 hu
                    have hfu := rowB_free hin3.out.2 q9
                    have htk9 : (toL g q).take (m + 1) = (toL g q).take m ++ [(q9 : Int)] := by rw [hz]; exact List.take_succ_eq_append_getElem hml
                    have HM := Lib.hid htk9
                    clear hml hz hq9 hc9 hb9 hu htk9
                    go_wp2_with fail
                    go_roundg (tl9 - (m + 1))
                    case measure => omega
                    case rel =>
                      refine ⟨m + 1, rfl, by omega, by go_num, Lib.hid ⟨hin3.out.1.setCell (p := ⟨w5.heap.size, q9, none⟩) (.inl (by simp)) _, ?_⟩⟩
                      rw [HM.out, ← inF_succ]
                      exact rowB_set _ hin3.out.2
                  · obtain rfl : m = tl9 := by omega
                    go_wp2_with fail
                    go_roundg (zl - (k + 1))
                    case measure => omega
                    case rel =>
                      refine ⟨k + 1, rfl, by omega, by go_num, Lib.hid ⟨HK.out.2.2.1.tr ((HF.out.2.1.any).tr hin3.out.1), ?_⟩⟩
                      have h9 := hin3.out.2
                      have e9 : (toL g q).take m = toL g q := List.take_of_length_le (by have := HF.out.2.2; omega)
                      rw [e9, inF_end, ← HK.out.1] at h9
                      exact h9
            · obtain rfl : k = zl := by omega
              have hrow9 := hin2.out.2
              rw [List.take_of_length_le (by have := HZ.out.2.1; omega)] at hrow9
              have hTA : Hid (∀ W, Chg [] wl W → Ints W ta (toL g i)) := Lib.hid fun W hW =>
                (ownInts_read (FreshInts.own (((H6.out.2.2.any.tr hin2.out.1).tr0 hW).row H5.out.2.1 (fun k hk hm => by have := (H5.out.2.1.lt k hk).2; simp at hm; omega)))).1
              have H9 := Lib.hid (And.intro hrow9 h4l)
              clear hrow9 h4l
              go_wp2_with fail
              go_loopg [11, 10] gn (fun d kv bv wr => ∃ (k : Nat) (b : Bool), d = gn - k ∧ k ≤ gn ∧ kv = .int .i64 k ∧ bv = .bool b ∧ Hid (b = backB g i k ∧ Chg [] wl wr))
              case atStart => exact ⟨0, false, rfl, Nat.zero_le _, rfl, rfl, Lib.hid ⟨rfl, Chg.refl _ _⟩⟩
              case round =>
                obtain ⟨r, b, rfl, hrn, rfl, rfl, hin4⟩ := hrel
                obtain ⟨wb, rfl⟩ : ∃ wz, wz = wr := ⟨_, rfl⟩
                have h4b := H9.out.2.tr hin4.out.2
                have hrowb := hin4.out.2.heap H9.out.1 (by simp)
                by_cases hltr : r < gn
                · obtain ⟨c, hc⟩ : ∃ c, c = markB g zs r := ⟨_, rfl⟩
                  have hcb := rowB_cell hrowb (inL_at g zs hltr)
                  rw [← hc] at hcb
                  have hil : i < g.rules.length := by have := H.out.2.2.1; omega
                  have htoc : (toL g i).contains (r : Int) = c := by rw [hc, HZ.out.1]; exact to_mark HR.out.1 hil r
                  have hto := hTA.out
                  have cA := calls_rg (w := wb) (fun w1 h1 => has_any w1 ta tl tc (toL g i) H5.out.1 (by have := toL_len g i; have := H5.out.1; omega) (hto w1 (hin4.out.2.tr h1)) r)
                  rw [htoc] at cA
                  have HC := Lib.hid (And.intro hc (And.intro htoc (And.intro hrowb (And.intro h4b hil))))
                  have kcb := cell_rg hcb
                  clear hc htoc hrowb h4b hil hto hcb
                  have hfin : ∀ (wz : World) (d : Bool), Chg [] wb wz → d = (b || (c && (((graphG g).getD r []).contains (i : Int) && goesB g r))) → Hid (d = backB g i (r + 1) ∧ Chg [] wl wz) := by
                    intro wz d hz hd
                    refine Lib.hid ⟨?_, hin4.out.2.tr hz⟩
                    rw [hd, backB_succ, ← HZ.out.1, HC.out.1, hin4.out.1]
                  cases c
                  all_goals go_wp2_with fail
                  all_goals refine wp_region_quiet_below (by kernel_rfl) (by kernel_rfl) ?_
                  all_goals repeat (go_big_quiet_step (first | (with_reducible exact cA _ _)))
                  all_goals refine wpQuiet_nil ?_
                  all_goals intro wz hwz
                  all_goals have hcz := chg_of_rg hwz
                  all_goals clear hwz kcb cA
                  · have hcb := rowB_cell (hcz.heap HC.out.2.2.1 (by simp)) (inL_at g zs hltr)
                    rw [← HC.out.1] at hcb
                    cases b
                    all_goals go_wp2_with fail
                    all_goals go_roundg (gn - (r + 1))
                    case measure => omega
                    case rel => exact ⟨r + 1, _, rfl, by omega, by go_num, rfl, hfin _ _ hcz (by simp)⟩
                    case measure => omega
                    case rel => exact ⟨r + 1, _, rfl, by omega, by go_num, rfl, hfin _ _ hcz (by simp)⟩
                  · cases b with
                    | true =>
                      go_wp2_with fail
                      go_roundg (gn - (r + 1))
                      case measure => omega
                      case rel => exact ⟨r + 1, _, rfl, by omega, by go_num, rfl, hfin _ _ hcz (by simp)⟩
                    | false =>
                      have hcb := rowB_cell (hcz.heap HC.out.2.2.1 (by simp)) (inL_at g zs hltr)
                      rw [← HC.out.1] at hcb
                      have h4z := HC.out.2.2.2.1.tr hcz
                      have hVr : r < VS.length := by
                        have := congrArg List.length H4.out.2.2.1
                        rw [List.length_map, ← HR.out.2.1] at this
                        omega
                      obtain ⟨gb', e9, _, hgr⟩ := (H4.out.2.2.2.chg0 h4z).at hVr
                      cases e9
                      have hintr := (H4.out.2.2.2.chg0 h4z).ints hVr
                      obtain ⟨zr, hzr⟩ : ∃ zr, zr = (graphG g).getD r [] := ⟨_, rfl⟩
                      have hrow2 : VS[r].2.2 = zr := by
                        have h1 : (VS.map (·.2.2))[r]? = some VS[r].2.2 := by simp [hVr]
                        rw [H4.out.2.2.1] at h1
                        rw [hzr, List.getD, h1]; rfl
                      rw [hrow2] at hintr
                      obtain ⟨rl, hrl⟩ : ∃ rl, rl = zr.length := ⟨_, rfl⟩
                      obtain ⟨ra, hra⟩ : ∃ ra, ra = VS[r].1 := ⟨_, rfl⟩
                      obtain ⟨rc, hrc⟩ : ∃ rc, rc = VS[r].2.1 := ⟨_, rfl⟩
                      simp only [Is.cell, hrow2] at hgr
                      rw [← hrl, ← hra, ← hrc] at hgr
                      rw [← hra] at hintr
                      have hrl32 : rl ≤ 32 := by
                        rw [hrl, ← hrow2]
                        have : VS[r].2.2 ∈ graphG g := by rw [← H4.out.2.2.1]; exact List.mem_map_of_mem (List.getElem_mem hVr)
                        exact (graph_ok HR.out.1).rows _ this
                      obtain ⟨d, hd⟩ : ∃ d, d = zr.contains (i : Int) := ⟨_, rfl⟩
                      have hp := has_any wz ra rl rc zr hrl (by omega) hintr i
                      rw [← hd] at hp
                      have HP := Lib.hid (And.intro hp (And.intro hd (And.intro hzr (And.intro h4z hcz))))
                      clear hp hd hzr hrow2 hrl hra hrc hintr hVr h4z hcz
                      go_wp2_with fail
                      refine HP.out.1.mono ?_
                      rintro e wy ⟨rfl, hcy⟩
                      have HY := Lib.hid hcy
                      clear hcy
                      cases d with
                      | false =>
                        go_wp2_with fail
                        go_roundg (gn - (r + 1))
                        case measure => omega
                        case rel => exact ⟨r + 1, _, rfl, by omega, by go_num, rfl, hfin _ _ (HP.out.2.2.2.2.tr HY.out) (by rw [← HP.out.2.2.1, ← HP.out.2.1]; rfl)⟩
                      | true =>
                        obtain ⟨x0, x1⟩ := cells2 ((HP.out.2.2.2.1.tr HY.out).heap H4.out.1 (by simp))
                        obtain ⟨t, ht⟩ : ∃ t, t = goesB g r := ⟨_, rfl⟩
                        have hp := Goes_any wy a1 gn c1 a2 n2 c2 g (H.out.1.keep ((H4.out.2.1.tr (HP.out.2.2.2.1.tr HY.out))).kp) H.out.2.1 r
                        rw [← ht] at hp
                        have HT := Lib.hid (And.intro hp ht)
                        clear hp ht
                        go_wp2_with fail
                        refine HT.out.1.mono ?_
                        rintro e wx ⟨rfl, hcx⟩
                        have HX := Lib.hid hcx
                        clear hcx x0 x1
                        go_wp2_with fail
                        go_roundg (gn - (r + 1))
                        case measure => omega
                        case rel => exact ⟨r + 1, _, rfl, by omega, by go_num, rfl, hfin _ _ ((HP.out.2.2.2.2.tr HY.out).tr HX.out) (by rw [← HP.out.2.2.1, ← HP.out.2.1, HT.out.2]; rfl)⟩
                · obtain rfl : r = gn := by omega
                  have hil : i < g.rules.length := by have := H.out.2.2.1; omega
                  obtain ⟨c, hc⟩ : ∃ c, c = markB g zs i := ⟨_, rfl⟩
                  have hcb := rowB_cell hrowb (inL_at g zs hlt)
                  rw [← hc] at hcb
                  have hgc : goesB g i = c := by rw [hc, HZ.out.1]; exact goes_mark HR.out.1 hil
                  have hcbk : c = true → b = true := by
                    intro e
                    rw [hin4.out.1]
                    have := back_of HR.out.1 hil (by rw [← HZ.out.1, ← hc]; exact e)
                    rw [← H.out.2.2.1] at this
                    exact this
                  have cA := calls_rg (w := wb) (fun w1 h1 => Goes_any w1 a1 r c1 a2 n2 c2 g (H.out.1.keep ((H4.out.2.1.tr h4b).tr h1).kp) H.out.2.1 i)
                  rw [hgc] at cA
                  obtain ⟨x0, x1⟩ := cells2 (h4b.heap H4.out.1 (by simp))
                  have kx0 := cell_rg x0
                  have kx1 := cell_rg x1
                  have kcb := cell_rg hcb
                  have HC := Lib.hid (And.intro h4b (And.intro hrowb hc))
                  clear h4b hrowb hil hc hcb hgc x0 x1
                  cases c with
                  | false =>
                    clear hcbk
                    go_wp2_with fail
                    refine wp_region_quiet_below (by kernel_rfl) (by kernel_rfl) ?_
                    repeat (go_big_quiet_step (first | (with_reducible exact cA _ _)))
                    refine wpQuiet_nil ?_
                    intro wz hwz
                    have hcz := chg_of_rg hwz
                    clear hwz kcb cA kx0 kx1
                    go_wp2_with fail
                    go_roundg (r - (i + 1))
                    case measure => omega
                    case rel => exact ⟨i + 1, rfl, by omega, by go_num, Lib.hid (HC.out.1.tr hcz)⟩
                  | true =>
                    obtain rfl := hcbk rfl
                    clear hcbk
                    go_wp2_with fail
                    refine wp_region_quiet_below (by kernel_rfl) (by kernel_rfl) ?_
                    repeat (go_big_quiet_step (first | (with_reducible exact cA _ _)))
                    refine wpQuiet_nil ?_
                    intro wz hwz
                    have hcz := chg_of_rg hwz
                    clear hwz kcb cA kx0 kx1
                    go_wp2_with fail
                    go_roundg (r - (i + 1))
                    case measure => omega
                    case rel => exact ⟨i + 1, rfl, by omega, by go_num, Lib.hid (HC.out.1.tr hcz)⟩
        · obtain rfl : i = gn := by omega
          go_wp2_with fail
          go_ret
          exact ⟨rfl, H4.out.2.1.tr hin.out⟩
end Go.Proofs.Ytibgfgfmljhimaa

/-
  LeftWay: what the law computes.
  Conditions: the grammar reads as data, within the reach.
-/
import Derived.Test.YtibgfgfmljhimaaLf2
import Derived.Test.YtibgfgfmljhimaaGPick
set_option linter.unusedVariables false
set_option linter.unusedSimpArgs false
set_option linter.unnecessarySimpa false
namespace Go.Proofs.Ytibgfgfmljhimaa
open Go.RowKit Go.MapKept Go.Shelf

theorem graph_up {g : Gr} (hr : rightB g = true) : ∀ zs ∈ graphG g, zs.Pairwise (· < ·) := by
  intro zs hzs
  have e : graphG g = g.rules.map (fun r => callsG g r.body) := by simp [graphG, hr]
  rw [e] at hzs
  obtain ⟨r, _, rfl⟩ := List.mem_map.1 hzs
  exact pickL_sorted _ _
theorem wayL_eq {g : Gr} (hr : rightB g = true) {i : Nat} (hi : i < g.rules.length) (k : Int) : wayL g i k = wayI (graphG g) i k := by
  rw [wayL, if_pos (show inR g i from ⟨by omega, by omega, hr⟩), Int.toNat_natCast]
  rfl
theorem backF_len (ss : List Stp) : ∀ (f : Nat) (a : Int), (backF ss f a).length ≤ f := by
  intro f
  induction f with
  | zero => intro a; exact Nat.le_refl _
  | succ f ih =>
    intro a
    rw [backF]
    split
    · simp
    · split
      · simp
      · rename_i s _
        have := ih s.2
        simp only [List.length_cons]
        omega
theorem wayL_len (g : Gr) (i k : Int) : (wayL g i k).length ≤ 34 := by
  unfold wayL
  split
  · rename_i h
    have h1 := walkL_ok (graph_ok h.2.2) i.toNat
    have h2 := h1.few_steps
    have h3 := h1.few
    unfold wayAt
    split
    · simp
    · have := backF_len (walkL (graphG g) i.toNat).2 ((walkL (graphG g) i.toNat).2.length + 1) (idxI (walkL (graphG g) i.toNat).2 (fun s => s.1 == k))
      simp only [List.length_reverse, List.length_append, List.length_cons, List.length_nil, backL]
      omega
  · simp
theorem wayL_has {g : Gr} (hr : rightB g = true) {i k : Nat} (hi : i < g.rules.length) : decide (0 < (wayL g i k).length) = (toL g i).contains (k : Int) := by
  rw [Bool.eq_iff_iff, decide_eq_true_iff, List.length_pos_iff, wayL_eq hr hi, wayI_tr (graph_ok hr) (graph_up hr), List.contains_eq_mem, decide_eq_true_iff]
  exact (toL_mem hr hi k).symm
theorem wayL_shape {g : Gr} (hr : rightB g = true) {i k : Nat} (hi : i < g.rules.length) (h : wayL g i k ≠ []) :
    ∃ (v : Nat) (q : List Int), wayL g i k = (i : Int) :: (v : Int) :: q ∧ (v : Int) ∈ (graphG g).getD i [] ∧ v < g.rules.length ∧ ((v : Int) :: q).getLast? = some (k : Int) ∧ (q ≠ [] → wayL g v k = (v : Int) :: q) := by
  rw [wayL_eq hr hi] at h ⊢
  obtain ⟨v, q, h1, h2, h3, h4⟩ := wayI_shape (graph_ok hr) (graph_up hr) h
  have h5 := (graph_ok hr).at i v h2
  obtain ⟨u, rfl⟩ : ∃ u : Nat, v = u := ⟨v.toNat, by omega⟩
  refine ⟨u, q, h1, h2, by omega, h3, fun hq => ?_⟩
  rw [wayL_eq hr (by omega)]
  rw [Int.toNat_natCast] at h4
  exact h4 hq
def farL (g : Gr) (z k : Nat) : Int := if z = k then 1 else ((wayL g z k).length : Int)
theorem wayL_least {g : Gr} (hr : rightB g = true) {i k v : Nat} {q : List Int} (hi : i < g.rules.length) (h : wayL g i k = (i : Int) :: (v : Int) :: q) {z : Nat} (hz : (z : Int) ∈ (graphG g).getD i []) :
    ¬ (0 < farL g z k ∧ (farL g z k < q.length + 1 ∨ farL g z k = q.length + 1 ∧ z < v)) := by
  rw [wayL_eq hr hi] at h
  have hzn := (graph_ok hr).at i z hz
  obtain ⟨h1, h2⟩ := wayI_least (graph_ok hr) (graph_up hr) h hz
  unfold farL
  by_cases e : z = k
  · rw [if_pos e]
    have := h1 (by omega)
    omega
  · rw [if_neg e, wayL_eq hr (by omega)]
    rw [Int.toNat_natCast] at h2
    rintro ⟨h3, h4⟩
    have hne : wayI (graphG g) z k ≠ [] := by
      intro e2
      rw [e2] at h3
      simp at h3
    have := h2 hne
    omega
/-! ### The walk -/
/-- A row of the graph, as it lies. -/
theorem graph_row {B : Nat} {w : World} {a : Option Addr} {c : Nat} {VS : List Is} {g : Gr} (h : OwnIs B w a c VS) (hVS : VS.map (·.2.2) = graphG g) (hr : rightB g = true) {i : Nat} (hi : i < g.rules.length) :
    ∃ gb za zl zc, a = some ⟨gb, 0, none⟩ ∧ w.cell? ⟨gb, i, none⟩ = some (.slice za zl zc) ∧ zl = ((graphG g).getD i []).length ∧ Ints w za ((graphG g).getD i []) ∧ zl ≤ 32 := by
  have hVl : i < VS.length := by
    have := congrArg List.length hVS
    rw [List.length_map, graphG_len hr] at this
    omega
  obtain ⟨gb, rfl, hgb, hgc⟩ := h.at hVl
  have hints := h.ints hVl
  have hrowe : VS[i].2.2 = (graphG g).getD i [] := by
    have h1 : (VS.map (·.2.2))[i]? = some VS[i].2.2 := by simp [hVl]
    rw [hVS] at h1
    rw [List.getD, h1]; rfl
  rw [hrowe] at hints
  simp only [Is.cell, hrowe] at hgc
  refine ⟨gb, _, _, _, rfl, hgc, rfl, hints, ?_⟩
  rw [← hrowe]
  have : VS[i].2.2 ∈ graphG g := by rw [← hVS]; exact List.mem_map_of_mem (List.getElem_mem hVl)
  exact (graph_ok hr).rows _ this

set_option maxRecDepth 100000 in
set_option maxHeartbeats 16000000 in
theorem leftWayLaw_any (w : World) (a1 : Option Addr) (n1 c1 : Nat) (a2 : Option Addr) (n2 c2 : Nat) (g : Gr) (hg : GramAt w a1 n1 c1 a2 n2 c2 g) (hre : Reach g) (i k : Int) (hi : I64 i) (hk : I64 k) :
    Calls Try.prog 12 #[.agg #[.slice a1 n1 c1, .slice a2 n2 c2], .int .i64 i, .int .i64 k] w fun e w' => e = .returned (.bool true) ∧ Chg [] w w' := by
  have H := Lib.hid (And.intro hg (And.intro hre (And.intro hg.e1 hg.e2)))
  have HI := Lib.hid (And.intro hi hk)
  clear hg hre hi hk
  go_enter Try.func12, Try.ntmps12
  go_wp2_with fail
  refine (awake12_any _).mono ?_
  rintro e w1 ⟨rfl, hc1⟩
  have hb1 := hc1.heap (heap_alloc_same _ _) (by simp)
  have H1 := Lib.hid (And.intro hb1 (((Chg.refl [] w).alloc _).tr0 hc1))
  clear hc1 hb1
  obtain ⟨x0, x1⟩ := cells2 H1.out.1
  go_wp2_with fail
  refine (size12_any _ a1 n1 c1 a2 n2 c2 g (H.out.1.keep H1.out.2.kp) H.out.2.1).mono ?_
  rintro e w2 ⟨m, rfl, hm1, hm2, hc2⟩
  have H2 := Lib.hid (And.intro (hc2.heap H1.out.1 (by simp)) (H1.out.2.tr hc2))
  clear hc2 x0 x1
  by_cases hm : (300 : Int) < m
  · go_wp2_with fail
    go_ret
    exact ⟨rfl, H2.out.2⟩
  · clear hm1 hm2
    obtain ⟨x0, x1⟩ := cells2 H2.out.1
    go_wp2_with fail
    refine (Right_any _ a1 n1 c1 a2 n2 c2 g (H.out.1.keep H2.out.2.kp)).mono ?_
    rintro e w3 ⟨rfl, hc3⟩
    have H3 := Lib.hid (And.intro (hc3.heap H2.out.1 (by simp)) (H2.out.2.tr hc3))
    clear hc3 x0 x1
    obtain ⟨x0, x1⟩ := cells2 H3.out.1
    cases hr : rightB g with
    | false =>
      go_wp2_with fail
      go_ret
      exact ⟨rfl, H3.out.2⟩
    | true =>
      have hs := (right_sizes hr).1
      have hs2 := (right_sizes hr).2.1
      have hn1 : 1 ≤ n1 := by have := H.out.2.2.1; omega
      have hn32 : n1 ≤ 32 := by have := H.out.2.2.1; omega
      obtain ⟨fr, hfr⟩ : ∃ fr : Nat, i % (n1 : Int) = fr := ⟨(i % (n1 : Int)).toNat, by have := Int.emod_nonneg i (show (n1 : Int) ≠ 0 by omega); omega⟩
      obtain ⟨to, hto⟩ : ∃ to : Nat, k % (n1 : Int) = to := ⟨(k % (n1 : Int)).toNat, by have := Int.emod_nonneg k (show (n1 : Int) ≠ 0 by omega); omega⟩
      have hfrn : fr < n1 := by have := Int.emod_lt_of_pos i (show (0 : Int) < n1 by omega); omega
      have cA := calls_rg (w := w3) (fun w1 h1 => pickK_any i n1 w1 (by omega) (by omega) HI.out.1.1 HI.out.1.2)
      have cB := calls_rg (w := w3) (fun w1 h1 => pickK_any k n1 w1 (by omega) (by omega) HI.out.2.1 HI.out.2.2)
      rw [hfr] at cA
      rw [hto] at cB
      have kx0 := cell_rg x0
      have kx1 := cell_rg x1
      have HR := Lib.hid (And.intro hr (show fr < g.rules.length by have := H.out.2.2.1; omega))
      clear hr hs hs2 hfr hto x0 x1
      go_wp2_with fail
      refine wp_region_quiet_below (by kernel_rfl) (by kernel_rfl) ?_
      repeat (go_big_quiet_step (first | (with_reducible exact cA _ _) | (with_reducible exact cB _ _)))
      refine wpQuiet_nil ?_
      intro w4 hw4
      have hc4 := chg_of_rg hw4
      clear hw4 cA cB kx0 kx1
      have H4 := Lib.hid (And.intro (hc4.heap H3.out.1 (by simp)) (H3.out.2.tr hc4))
      clear hc4
      obtain ⟨x0, x1⟩ := cells2 H4.out.1
      go_wp2_with fail
      refine (Way_any _ a1 n1 c1 a2 n2 c2 g (H.out.1.keep H4.out.2.kp) H.out.2.1 fr to).mono ?_
      rintro e w5 ⟨la, lc, rfl, hf5, hc5⟩
      obtain ⟨l, hl⟩ : ∃ l, l = wayL g fr to := ⟨_, rfl⟩
      rw [← hl] at hf5 ⊢
      obtain ⟨ln, hln⟩ : ∃ ln, ln = l.length := ⟨_, rfl⟩
      rw [← hln]
      have hln34 : ln ≤ 34 := by rw [hln, hl]; exact wayL_len _ _ _
      have H5 := Lib.hid (And.intro (hc5.heap H4.out.1 (by simp)) (And.intro (H4.out.2.tr hc5) (And.intro hf5 (And.intro hl hln))))
      clear hf5 hc5 hl hln x0 x1
      obtain ⟨x0, x1⟩ := cells2 H5.out.1
      go_wp2_with fail
      refine (To_any _ a1 n1 c1 a2 n2 c2 g (H.out.1.keep H5.out.2.1.kp) H.out.2.1 fr).mono ?_
      rintro e w6 ⟨ta, tc, rfl, hf6, hc6⟩
      obtain ⟨tl, htl⟩ : ∃ tl, tl = (toL g fr).length := ⟨_, rfl⟩
      rw [← htl]
      have htl32 : tl ≤ 32 := by rw [htl]; exact toL_len _ _
      obtain ⟨b, hb⟩ : ∃ b, b = (toL g fr).contains (to : Int) := ⟨_, rfl⟩
      have hp := has_any w6 ta tl tc (toL g fr) htl (by omega) (ownInts_read (FreshInts.own hf6)).1 to
      rw [← hb] at hp
      have hbl : decide (0 < ln) = b := by rw [hb, H5.out.2.2.2.2, H5.out.2.2.2.1]; exact wayL_has HR.out.1 HR.out.2
      have H6 := Lib.hid (And.intro (hc6.heap H5.out.1 (by simp)) (And.intro (H5.out.2.1.tr hc6) (And.intro (hc6.row H5.out.2.2.1 (fun _ _ => by simp)) hp)))
      clear hf6 hc6 htl hb hp x0 x1
      go_wp2_with fail
      refine H6.out.2.2.2.mono ?_
      rintro e w7 ⟨rfl, hc7⟩
      have H7 := Lib.hid (And.intro (hc7.heap H6.out.1 (by simp)) (And.intro (H6.out.2.1.tr hc7) (hc7.row H6.out.2.2.1 (fun _ _ => by simp))))
      clear hc7
      cases b with
      | false =>
        obtain rfl : ln = 0 := by simpa using hbl
        clear hbl
        go_wp2_with fail
        go_ret
        exact ⟨rfl, H7.out.2.1⟩
      | true =>
        have hpos : 0 < ln := by simpa using hbl
        obtain ⟨v, q, e1, e2, e3, e4, e5⟩ := wayL_shape HR.out.1 (k := to) HR.out.2 (by rw [← H5.out.2.2.2.1]; intro h; rw [H5.out.2.2.2.2, h] at hpos; cases hpos)
        rw [← H5.out.2.2.2.1] at e1
        obtain ⟨ql, hql⟩ : ∃ ql, ql = q.length := ⟨_, rfl⟩
        have hlq : ln = ql + 2 := by rw [H5.out.2.2.2.2, e1, hql]; simp
        have HS := Lib.hid (And.intro e1 (And.intro e2 (And.intro e3 (And.intro e4 (And.intro e5 hql)))))
        clear hbl hpos e1 e2 e3 e4 e5 hql
        subst hlq
        obtain ⟨x0, x1⟩ := cells2 H7.out.1
        go_wp2_with fail
        refine (Graph_any _ a1 n1 c1 a2 n2 c2 g (H.out.1.keep H7.out.2.1.kp) H.out.2.1).mono ?_
        rintro e w8 ⟨ga, gc, VS, rfl, hVS, hO, hc8⟩
        obtain ⟨gn, hgn⟩ : ∃ gn, gn = (graphG g).length := ⟨_, rfl⟩
        rw [← hgn]
        obtain rfl : gn = n1 := by rw [hgn, graphG_len HR.out.1]; exact H.out.2.2.1.symm
        obtain ⟨gb, za, zl, zc, rfl, hgc, hzl, hzi, hzl32⟩ := graph_row hO hVS HR.out.1 HR.out.2
        have hrow8 := hc8.row H7.out.2.2 (fun _ _ => by simp)
        have hi8 := (ownInts_read (FreshInts.own hrow8)).1
        have hcap := (ownInts_read (FreshInts.own hrow8)).2.2
        have hz8 := ((fun h => by rw [HS.out.1] at h; exact h) hi8 : Ints w8 la ((fr : Int) :: (v : Int) :: q))
        obtain ⟨bl, ol, rfl, hy0⟩ := hz8 0 (by simp)
        obtain ⟨_, _, eq1, hy1⟩ := hz8 1 (by simp)
        cases eq1
        obtain ⟨_, _, eq1, hy2⟩ := hz8 (ql + 1) (by simp [HS.out.2.2.2.2.2])
        cases eq1
        simp only [List.getElem_cons_succ, List.getElem_cons_zero, Nat.add_zero] at hy0 hy1 hy2
        have hlast : ((v : Int) :: q)[ql]'(by simp [HS.out.2.2.2.2.2]) = (to : Int) := by
          have h1 := HS.out.2.2.2.1
          rw [List.getLast?_eq_getElem?] at h1
          have h2 : ((v : Int) :: q).length - 1 = ql := by rw [List.length_cons, Nat.add_sub_cancel]; exact HS.out.2.2.2.2.2.symm
          rw [h2] at h1
          exact (List.getElem?_eq_some_iff.1 h1).2
        rw [hlast] at hy2
        have hcap2 : ql + 2 ≤ lc ∧ lc ≤ 9223372036854775807 := by
          rw [← H5.out.2.2.2.2] at hcap
          simp only [maxLen] at hcap
          omega
        have hlen8 : l.length = ql + 2 := H5.out.2.2.2.2.symm
        have htail : Ints w8 (some ⟨bl, ol + 1, none⟩) ((v : Int) :: q) := by
          intro j hj
          obtain ⟨_, _, eq2, hcj⟩ := hz8 (j + 1) (by simpa using hj)
          cases eq2
          exact ⟨bl, ol + 1, rfl, by rw [show ol + 1 + j = ol + (j + 1) by omega]; exact hcj⟩
        have hin : ((graphG g).getD fr []).contains (v : Int) = true := by rw [List.contains_eq_mem, decide_eq_true_eq]; exact HS.out.2.1
        have cA := calls_rg (w := w8) (fun w1 h1 => has_any w1 za zl zc _ hzl (by omega) (hzi.keep h1.kp) v)
        rw [hin] at cA
        have H8 := Lib.hid (And.intro (hc8.heap H7.out.1 (by simp)) (And.intro (H7.out.2.1.tr hc8) (And.intro hgc (And.intro hzl (And.intro hzi (And.intro htail (And.intro hy0 hy1)))))))
        have ky0 := cell_rg hy0
        have ky1 := cell_rg hy1
        have ky2 := cell_rg hy2
        have kg := cell_rg hgc
        clear hVS hO hc8 hgn hgc hzl hzi hrow8 hi8 hcap hz8 htail hin hlast hlen8 hy0 hy1 hy2 x0 x1
        have hd2 : decide ((ql : Int) + 2 < 2) = false := by rw [decide_eq_false_iff_not]; omega
        have hwr : IntKind.i64.wrap ((ql : Int) + 2 - 1) = (ql : Int) + 1 := by rw [show (ql : Int) + 2 - 1 = (ql : Int) + 1 by omega]; exact IntWalk.i64_in _ (by omega)
        have hft : (fr == fr) = true := by simp
        go_wp2_with fail
        refine wp_region_quiet_below (by kernel_rfl) (by kernel_rfl) ?_
        repeat (go_big_quiet_step (first | (with_reducible exact cA _ _)))
        refine wpQuiet_nil ?_
        intro w9 hw9
        have hc9 := chg_of_rg hw9
        obtain ⟨hy0, hy1⟩ := H8.out.2.2.2.2.2.2
        have H9 := Lib.hid (And.intro (hc9.heap H8.out.1 (by simp)) (And.intro (H8.out.2.1.tr hc9) (And.intro (hc9.cell H8.out.2.2.1 (by simp)) (And.intro H8.out.2.2.2.1 (And.intro (H8.out.2.2.2.2.1.keep hc9.kp) (And.intro (H8.out.2.2.2.2.2.1.keep hc9.kp) (And.intro (hc9.cell hy0 (by simp)) (hc9.cell hy1 (by simp)))))))))
        have HC := Lib.hid hwr
        clear hw9 cA ky0 ky1 ky2 kg hd2 hwr hft hy0 hy1 hc9
        rcases Nat.eq_zero_or_pos ql with hq | hq
        · have hd3 : decide ((2 : Int) < (ql : Int) + 2) = false := by rw [decide_eq_false_iff_not]; omega
          clear hq
          obtain ⟨x0, x1⟩ := cells2 H9.out.1
          go_wp2_with fail
          refine wp_region_quiet_below (by kernel_rfl) (by kernel_rfl) ?_
          repeat (go_big_quiet_step (fail))
          refine wpQuiet_nil ?_
          intro wt hwt
          have hct := chg_of_rg hwt
          obtain ⟨hy0, hy1⟩ := H9.out.2.2.2.2.2.2
          have HT := Lib.hid (And.intro (hct.heap H9.out.1 (by simp)) (And.intro (H9.out.2.1.tr hct) (And.intro (hct.cell H9.out.2.2.1 (by simp)) (And.intro H9.out.2.2.2.1 (And.intro (H9.out.2.2.2.2.1.keep hct.kp) (And.intro (hct.cell hy0 (by simp)) (hct.cell hy1 (by simp))))))))
          clear hwt hct hy0 hy1 x0 x1 hd3
          obtain ⟨x0, x1⟩ := cells2 HT.out.1
          have g0 := HT.out.2.2.1
          go_wp2_with fail
          clear x0 x1 g0
          go_loopg [11] zl (fun d mv wr => ∃ m : Nat, d = zl - m ∧ m ≤ zl ∧ mv = .int .i64 m ∧ Hid (Chg [] wt wr))
          case atStart => exact ⟨0, rfl, Nat.zero_le _, rfl, Lib.hid (Chg.refl _ _)⟩
          case round =>
            obtain ⟨m9, rfl, hm9, rfl, hin⟩ := hrel
            obtain ⟨wq, rfl⟩ : ∃ wz, wz = wr := ⟨_, rfl⟩
            have g0 := hin.out.cell HT.out.2.2.1 (by simp)
            obtain ⟨x0, x1⟩ := cells2 (hin.out.heap HT.out.1 (by simp))
            by_cases hlt : m9 < zl
            · have hml : m9 < ((graphG g).getD fr []).length := by have := HT.out.2.2.2.1; omega
              obtain ⟨bz, oz, rfl, hcz⟩ := (HT.out.2.2.2.2.1.keep hin.out.kp) m9 hml
              obtain ⟨z, hz⟩ : ∃ z, z = ((graphG g).getD fr [])[m9] := ⟨_, rfl⟩
              rw [← hz] at hcz
              have hzm : z ∈ (graphG g).getD fr [] := by rw [hz]; exact List.getElem_mem hml
              have hzr := (graph_ok HR.out.1).at fr z hzm
              obtain ⟨zn, rfl⟩ : ∃ zn : Nat, z = zn := ⟨z.toNat, by omega⟩
              have hlst := wayL_least HR.out.1 (k := to) HR.out.2 (by rw [← H5.out.2.2.2.1]; exact HS.out.1) hzm
              rw [← HS.out.2.2.2.2.2] at hlst
              have hy1 := hin.out.cell HT.out.2.2.2.2.2.2 (by simp)
              have hwr := HC.out
              have HM := Lib.hid (And.intro hlst hzr)
              clear hml hz hzm hzr hlst
              by_cases hzt : zn = to
              · subst hzt
                have hf := HM.out.1
                rw [farL, if_pos rfl] at hf
                have h1 : decide ((1 : Int) < (ql : Int) + 1) = false := by rw [decide_eq_false_iff_not]; omega
                have h2 : ((1 : Int) == (ql : Int) + 1) = true := by rw [beq_iff_eq]; omega
                have h3 : decide (zn < v) = false := by rw [decide_eq_false_iff_not]; omega
                clear hf
                have hzz : ((zn : Int) != (zn : Int)) = false := by simp
                go_wp2_with fail
                go_roundg (zl - (m9 + 1))
                case measure => omega
                case rel => exact ⟨m9 + 1, rfl, by omega, by go_num, hin⟩
              · have hzz : ((zn : Int) != (to : Int)) = true := by simp; omega
                obtain ⟨f, hf⟩ : ∃ f, f = (wayL g zn to).length := ⟨_, rfl⟩
                have hp := Way_any wq a1 gn c1 a2 n2 c2 g (H.out.1.keep (HT.out.2.1.tr hin.out).kp) H.out.2.1 zn to
                have hfl := HM.out.1
                rw [farL, if_neg hzt, ← hf] at hfl
                have hf34 : f ≤ 34 := by rw [hf]; exact wayL_len _ _ _
                have HP := Lib.hid (And.intro hp (And.intro hf (And.intro hfl HT.out.2.2.2.2.2.2)))
                clear hp hf hfl hwr hy1
                go_wp2_with fail
                refine HP.out.1.mono ?_
                rintro e wy ⟨ya, yc, rfl, -, hcy⟩
                rw [← HP.out.2.1]
                have hy1 := (hin.out.tr hcy).cell HP.out.2.2.2 (by simp)
                have hfl := HP.out.2.2.1
                have HY := Lib.hid hcy
                have hwr := HC.out
                clear hcy x0 x1 g0 hcz
                by_cases p1 : 0 < f
                · have h1 : decide ((f : Int) < (ql : Int) + 1) = false := by rw [decide_eq_false_iff_not]; omega
                  by_cases p2 : f = ql + 1
                  · have h2 : ((f : Int) == (ql : Int) + 1) = true := by rw [beq_iff_eq]; omega
                    have h3 : decide (zn < v) = false := by rw [decide_eq_false_iff_not]; omega
                    clear hfl p2
                    go_wp2_with fail
                    go_roundg (zl - (m9 + 1))
                    case measure => omega
                    case rel => exact ⟨m9 + 1, rfl, by omega, by go_num, Lib.hid (hin.out.tr HY.out)⟩
                  · have h2 : ((f : Int) == (ql : Int) + 1) = false := by rw [beq_eq_false_iff_ne]; omega
                    clear hfl p2
                    go_wp2_with fail
                    go_roundg (zl - (m9 + 1))
                    case measure => omega
                    case rel => exact ⟨m9 + 1, rfl, by omega, by go_num, Lib.hid (hin.out.tr HY.out)⟩
                · obtain rfl : f = 0 := by omega
                  clear hfl
                  go_wp2_with fail
                  go_roundg (zl - (m9 + 1))
                  case measure => omega
                  case rel => exact ⟨m9 + 1, rfl, by omega, by go_num, Lib.hid (hin.out.tr HY.out)⟩
            · obtain rfl : m9 = zl := by omega
              go_wp2_with fail
              go_ret
              exact ⟨rfl, HT.out.2.1.tr hin.out⟩
        · have hd3 : decide ((2 : Int) < (ql : Int) + 2) = true := by rw [decide_eq_true_eq]; omega
          have hne : q ≠ [] := fun h => by have := HS.out.2.2.2.2.2; rw [h] at this; simp at this; omega
          have hway : wayL g v to = (v : Int) :: q := HS.out.2.2.2.2.1 hne
          have HWay : Hid (∀ W, Chg [] w W → Calls Try.prog 62 #[.agg #[.slice a1 gn c1, .slice a2 n2 c2], .int .i64 v, .int .i64 to] W fun e W' => ∃ ta tc, e = .returned (.slice ta (ql + 1) tc) ∧ FreshInts W.heap.size W' ta tc ((v : Int) :: q) ∧ Chg [] W W') := Lib.hid fun W hW => by
            have := Way_any W a1 gn c1 a2 n2 c2 g (H.out.1.keep hW.kp) H.out.2.1 v to
            rw [hway] at this
            refine this.mono ?_
            rintro e W' ⟨ta, tc, rfl, h1, h2⟩
            exact ⟨ta, tc, by rw [List.length_cons, ← HS.out.2.2.2.2.2], h1, h2⟩
          have HSm : Hid (∀ W ta tc, Chg [] w9 W → FreshInts w9.heap.size W ta tc ((v : Int) :: q) → Calls Try.prog 63 #[.slice ta (ql + 1) tc, .slice (some ⟨bl, ol + 1, none⟩) (ql + 1) (lc - 1)] W fun e W' => e = .returned (.bool true) ∧ Chg [] W W') := Lib.hid fun W ta tc hW hf => by
            have h := same12_any W ta (some ⟨bl, ol + 1, none⟩) (ql + 1) tc (ql + 1) (lc - 1) ((v : Int) :: q) ((v : Int) :: q) (by rw [List.length_cons, ← HS.out.2.2.2.2.2]) (by rw [List.length_cons, ← HS.out.2.2.2.2.2]) (by omega) (ownInts_read (FreshInts.own hf)).1 (H9.out.2.2.2.2.2.1.keep hW.kp)
            rw [decide_eq_true rfl] at h
            exact h
          have hlc := hcap2
          clear hne hway
          go_wp2_with fail
          refine wp_region_st (by kernel_rfl) (by kernel_rfl) [84, 85, 86, 87, 88, 89, 90, 91, 92, 93, 94, 95, 96, 97, 98] (by kernel_rfl) (fun rI rV rW => match rI with | 0 => rV = .slice (some ⟨bl, ol, none⟩) (ql + 2) lc | 1 => rV = .int .i64 ((ql : Int) + 2) | 2 => rV = .bool true | 3 => rV = .bool true | 4 => rV = .agg #[.slice a1 gn c1, .slice a2 n2 c2] | 5 => rV = .slice (some ⟨bl, ol, none⟩) (ql + 2) lc | 6 => rV = .pointer (some ⟨bl, ol + 1, none⟩) | 7 => rV = .int .i64 v | 8 => rV = .int .i64 to | 9 => ∃ ta9 tc9, rV = .slice ta9 (ql + 1) tc9 ∧ FreshInts w9.heap.size rW ta9 tc9 ((v : Int) :: q) | 10 => rV = .slice (some ⟨bl, ol, none⟩) (ql + 2) lc | 11 => rV = .slice (some ⟨bl, ol + 1, none⟩) (ql + 1) (lc - 1) | 12 => rV = .bool true | 13 => rV = .bool false | 14 => rV = .bool false | _ => True) ?hS10 ?hstep10 ?hdone10
          case hS10 =>
            intro rI rV rW rW' hc rP
            match rI, rP with
            | 0, rP => exact rP
            | 1, rP => exact rP
            | 2, rP => exact rP
            | 3, rP => exact rP
            | 4, rP => exact rP
            | 5, rP => exact rP
            | 6, rP => exact rP
            | 7, rP => exact rP
            | 8, rP => exact rP
            | 9, rP => exact (by obtain ⟨ta9, tc9, e9, hp⟩ := rP; exact ⟨ta9, tc9, e9, hc.row hp (fun _ _ => by simp)⟩)
            | 10, rP => exact rP
            | 11, rP => exact rP
            | 12, rP => exact rP
            | 13, rP => exact rP
            | 14, rP => exact rP
            | _ + 15, _ => trivial
          case hstep10 =>
            intro rI rH us W hC hdep K hK
            have hiN : rI < 15 := rH
            simp only [actU, Act.put, List.setIfInBounds_toArray, List.set_cons_succ, List.set_cons_zero, Nat.reduceAdd] at hK ⊢
            have g1 := hC.cell H9.out.2.2.2.2.2.2.2 (by simp)
            obtain ⟨x0, x1⟩ := cells2 (hC.heap H9.out.1 (by simp))
            have hwr := HC.out
            have hlc1 := hlc
            rcases (show rI = 0 ∨ rI = 1 ∨ rI = 2 ∨ rI = 3 ∨ rI = 4 ∨ rI = 5 ∨ rI = 6 ∨ rI = 7 ∨ rI = 8 ∨ rI = 9 ∨ rI = 10 ∨ rI = 11 ∨ rI = 12 ∨ rI = 13 ∨ rI = 14 by omega) with rfl | rfl | rfl | rfl | rfl | rfl | rfl | rfl | rfl | rfl | rfl | rfl | rfl | rfl | rfl
            · simp only [List.getD_cons_succ, List.getD_cons_zero, List.setIfInBounds_toArray, List.set_cons_succ, List.set_cons_zero] at hK ⊢
              refine wpOp_at rfl rfl ?_
              go_simp
              exact hK _ _ _ rfl (Chg.refl _ _) rfl
            · have l0 := hdep 0 (by kernel_rfl)
              replace l0 : us 0 = .slice (some ⟨bl, ol, none⟩) (ql + 2) lc := l0
              simp only [List.getD_cons_succ, List.getD_cons_zero, List.setIfInBounds_toArray, List.set_cons_succ, List.set_cons_zero, l0] at hK ⊢
              refine wpOp_at rfl rfl ?_
              go_simp
              exact hK _ _ _ rfl (Chg.refl _ _) rfl
            · have l1 := hdep 1 (by kernel_rfl)
              replace l1 : us 1 = .int .i64 ((ql : Int) + 2) := l1
              simp only [List.getD_cons_succ, List.getD_cons_zero, List.setIfInBounds_toArray, List.set_cons_succ, List.set_cons_zero, l1] at hK ⊢
              refine wpOp_at rfl rfl ?_
              go_simp
              exact hK _ _ _ rfl (Chg.refl _ _) rfl
            · have l2 := hdep 2 (by kernel_rfl)
              replace l2 : us 2 = .bool true := l2
              simp only [List.getD_cons_succ, List.getD_cons_zero, List.setIfInBounds_toArray, List.set_cons_succ, List.set_cons_zero, l2] at hK ⊢
              refine wpOp_at rfl rfl ?_
              go_simp
              exact hK _ _ _ rfl (Chg.refl _ _) rfl
            · have l3 := hdep 3 (by kernel_rfl)
              replace l3 : us 3 = .bool true := l3
              simp only [List.getD_cons_succ, List.getD_cons_zero, List.setIfInBounds_toArray, List.set_cons_succ, List.set_cons_zero, l3] at hK ⊢
              refine wpOp_want rfl (by rfl) ?_
              go_simp
              exact hK _ _ _ rfl (Chg.refl _ _) rfl
            · have l3 := hdep 3 (by kernel_rfl)
              replace l3 : us 3 = .bool true := l3
              simp only [List.getD_cons_succ, List.getD_cons_zero, List.setIfInBounds_toArray, List.set_cons_succ, List.set_cons_zero, l3] at hK ⊢
              refine wpOp_want rfl (by rfl) ?_
              go_simp
              exact hK _ _ _ rfl (Chg.refl _ _) rfl
            · have l3 := hdep 3 (by kernel_rfl)
              replace l3 : us 3 = .bool true := l3
              have l5 := hdep 5 (by kernel_rfl)
              replace l5 : us 5 = .slice (some ⟨bl, ol, none⟩) (ql + 2) lc := l5
              simp only [List.getD_cons_succ, List.getD_cons_zero, List.setIfInBounds_toArray, List.set_cons_succ, List.set_cons_zero, l3, l5] at hK ⊢
              refine wpOp_want rfl (by rfl) ?_
              go_simp
              rw [if_pos (by omega)]
              exact hK _ _ _ rfl (Chg.refl _ _) rfl
            · have l3 := hdep 3 (by kernel_rfl)
              replace l3 : us 3 = .bool true := l3
              have l6 := hdep 6 (by kernel_rfl)
              replace l6 : us 6 = .pointer (some ⟨bl, ol + 1, none⟩) := l6
              simp only [List.getD_cons_succ, List.getD_cons_zero, List.setIfInBounds_toArray, List.set_cons_succ, List.set_cons_zero, l3, l6] at hK ⊢
              refine wpOp_want rfl (by rfl) ?_
              go_simp
              exact hK _ _ _ rfl (Chg.refl _ _) rfl
            · have l3 := hdep 3 (by kernel_rfl)
              replace l3 : us 3 = .bool true := l3
              simp only [List.getD_cons_succ, List.getD_cons_zero, List.setIfInBounds_toArray, List.set_cons_succ, List.set_cons_zero, l3] at hK ⊢
              refine wpOp_want rfl (by rfl) ?_
              go_simp
              exact hK _ _ _ rfl (Chg.refl _ _) rfl
            · have l3 := hdep 3 (by kernel_rfl)
              replace l3 : us 3 = .bool true := l3
              have l4 := hdep 4 (by kernel_rfl)
              replace l4 : us 4 = .agg #[.slice a1 gn c1, .slice a2 n2 c2] := l4
              have l7 := hdep 7 (by kernel_rfl)
              replace l7 : us 7 = .int .i64 v := l7
              have l8 := hdep 8 (by kernel_rfl)
              replace l8 : us 8 = .int .i64 to := l8
              simp only [List.getD_cons_succ, List.getD_cons_zero, List.setIfInBounds_toArray, List.set_cons_succ, List.set_cons_zero, l3, l4, l7, l8] at hK ⊢
              refine wpOp_want rfl (by rfl) ?_
              go_simp
              refine (HWay.out W (H9.out.2.1.tr hC)).mono ?_
              rintro e wz ⟨ta9, tc9, rfl, hf, hz⟩
              exact hK _ _ _ rfl hz ⟨ta9, tc9, rfl, row_base hf hC.size⟩
            · have l3 := hdep 3 (by kernel_rfl)
              replace l3 : us 3 = .bool true := l3
              simp only [List.getD_cons_succ, List.getD_cons_zero, List.setIfInBounds_toArray, List.set_cons_succ, List.set_cons_zero, l3] at hK ⊢
              refine wpOp_want rfl (by rfl) ?_
              go_simp
              exact hK _ _ _ rfl (Chg.refl _ _) rfl
            · have l3 := hdep 3 (by kernel_rfl)
              replace l3 : us 3 = .bool true := l3
              have l10 := hdep 10 (by kernel_rfl)
              replace l10 : us 10 = .slice (some ⟨bl, ol, none⟩) (ql + 2) lc := l10
              simp only [List.getD_cons_succ, List.getD_cons_zero, List.setIfInBounds_toArray, List.set_cons_succ, List.set_cons_zero, l3, l10] at hK ⊢
              refine wpOp_want rfl (by rfl) ?_
              go_simp
              rw [if_pos (by omega), if_neg (by omega)]
              exact hK _ _ _ rfl (Chg.refl _ _) rfl
            · have l3 := hdep 3 (by kernel_rfl)
              replace l3 : us 3 = .bool true := l3
              have l9 := hdep 9 (by kernel_rfl)
              obtain ⟨ta9, tc9, l9, p9⟩ := l9
              have l11 := hdep 11 (by kernel_rfl)
              replace l11 : us 11 = .slice (some ⟨bl, ol + 1, none⟩) (ql + 1) (lc - 1) := l11
              simp only [List.getD_cons_succ, List.getD_cons_zero, List.setIfInBounds_toArray, List.set_cons_succ, List.set_cons_zero, l3, l9, l11] at hK ⊢
              refine wpOp_want rfl (by rfl) ?_
              go_simp
              refine (HSm.out W ta9 tc9 hC p9).mono ?_
              rintro e wz ⟨rfl, hz⟩
              exact hK _ _ _ rfl hz rfl
            · have l3 := hdep 3 (by kernel_rfl)
              replace l3 : us 3 = .bool true := l3
              have l12 := hdep 12 (by kernel_rfl)
              replace l12 : us 12 = .bool true := l12
              simp only [List.getD_cons_succ, List.getD_cons_zero, List.setIfInBounds_toArray, List.set_cons_succ, List.set_cons_zero, l3, l12] at hK ⊢
              refine wpOp_want rfl (by rfl) ?_
              go_simp
              exact hK _ _ _ rfl (Chg.refl _ _) rfl
            · have l3 := hdep 3 (by kernel_rfl)
              replace l3 : us 3 = .bool true := l3
              have l13 := hdep 13 (by kernel_rfl)
              replace l13 : us 13 = .bool false := l13
              simp only [List.getD_cons_succ, List.getD_cons_zero, List.setIfInBounds_toArray, List.set_cons_succ, List.set_cons_zero, l3, l13] at hK ⊢
              refine wpOp_at rfl rfl ?_
              go_simp
              exact hK _ _ _ rfl (Chg.refl _ _) rfl
          case hdone10 =>
            intro us W hC hall
            have l0 := hall 0 (by decide)
            replace l0 : us 0 = .slice (some ⟨bl, ol, none⟩) (ql + 2) lc := l0
            have l1 := hall 1 (by decide)
            replace l1 : us 1 = .int .i64 ((ql : Int) + 2) := l1
            have l2 := hall 2 (by decide)
            replace l2 : us 2 = .bool true := l2
            have l3 := hall 3 (by decide)
            replace l3 : us 3 = .bool true := l3
            have l4 := hall 4 (by decide)
            replace l4 : us 4 = .agg #[.slice a1 gn c1, .slice a2 n2 c2] := l4
            have l5 := hall 5 (by decide)
            replace l5 : us 5 = .slice (some ⟨bl, ol, none⟩) (ql + 2) lc := l5
            have l6 := hall 6 (by decide)
            replace l6 : us 6 = .pointer (some ⟨bl, ol + 1, none⟩) := l6
            have l7 := hall 7 (by decide)
            replace l7 : us 7 = .int .i64 v := l7
            have l8 := hall 8 (by decide)
            replace l8 : us 8 = .int .i64 to := l8
            have l9 := hall 9 (by decide)
            obtain ⟨ta9, tc9, l9, p9⟩ := l9
            have l10 := hall 10 (by decide)
            replace l10 : us 10 = .slice (some ⟨bl, ol, none⟩) (ql + 2) lc := l10
            have l11 := hall 11 (by decide)
            replace l11 : us 11 = .slice (some ⟨bl, ol + 1, none⟩) (ql + 1) (lc - 1) := l11
            have l12 := hall 12 (by decide)
            replace l12 : us 12 = .bool true := l12
            have l13 := hall 13 (by decide)
            replace l13 : us 13 = .bool false := l13
            have l14 := hall 14 (by decide)
            replace l14 : us 14 = .bool false := l14
            simp only [actU, Act.put, List.setIfInBounds_toArray, List.set_cons_succ, List.set_cons_zero, Nat.reduceAdd, l0, l1, l2, l3, l4, l5, l6, l7, l8, l9, l10, l11, l12, l13, l14]
            clear hall l0 l1 l2 l3 l4 l5 l6 l7 l8 l9 l10 l11 l12 l13 l14
            have HT := Lib.hid (And.intro (hC.heap H9.out.1 (by simp)) (And.intro (H9.out.2.1.tr hC) (And.intro (hC.cell H9.out.2.2.1 (by simp)) (And.intro H9.out.2.2.2.1 (And.intro (H9.out.2.2.2.2.1.keep hC.kp) (And.intro (hC.cell H9.out.2.2.2.2.2.2.1 (by simp)) (hC.cell H9.out.2.2.2.2.2.2.2 (by simp))))))))
            obtain ⟨wt, rfl⟩ : ∃ wt, wt = W := ⟨_, rfl⟩
            clear hC hd3
            obtain ⟨x0, x1⟩ := cells2 HT.out.1
            have g0 := HT.out.2.2.1
            go_wp2_with fail
            clear x0 x1 g0
            go_loopg [11] zl (fun d mv wr => ∃ m : Nat, d = zl - m ∧ m ≤ zl ∧ mv = .int .i64 m ∧ Hid (Chg [] wt wr))
            case atStart => exact ⟨0, rfl, Nat.zero_le _, rfl, Lib.hid (Chg.refl _ _)⟩
            case round =>
              obtain ⟨m9, rfl, hm9, rfl, hin⟩ := hrel
              obtain ⟨wq, rfl⟩ : ∃ wz, wz = wr := ⟨_, rfl⟩
              have g0 := hin.out.cell HT.out.2.2.1 (by simp)
              obtain ⟨x0, x1⟩ := cells2 (hin.out.heap HT.out.1 (by simp))
              by_cases hlt : m9 < zl
              · have hml : m9 < ((graphG g).getD fr []).length := by have := HT.out.2.2.2.1; omega
                obtain ⟨bz, oz, rfl, hcz⟩ := (HT.out.2.2.2.2.1.keep hin.out.kp) m9 hml
                obtain ⟨z, hz⟩ : ∃ z, z = ((graphG g).getD fr [])[m9] := ⟨_, rfl⟩
                rw [← hz] at hcz
                have hzm : z ∈ (graphG g).getD fr [] := by rw [hz]; exact List.getElem_mem hml
                have hzr := (graph_ok HR.out.1).at fr z hzm
                obtain ⟨zn, rfl⟩ : ∃ zn : Nat, z = zn := ⟨z.toNat, by omega⟩
                have hlst := wayL_least HR.out.1 (k := to) HR.out.2 (by rw [← H5.out.2.2.2.1]; exact HS.out.1) hzm
                rw [← HS.out.2.2.2.2.2] at hlst
                have hy1 := hin.out.cell HT.out.2.2.2.2.2.2 (by simp)
                have hwr := HC.out
                have HM := Lib.hid (And.intro hlst hzr)
                clear hml hz hzm hzr hlst
                by_cases hzt : zn = to
                · subst hzt
                  have hf := HM.out.1
                  rw [farL, if_pos rfl] at hf
                  have h1 : decide ((1 : Int) < (ql : Int) + 1) = false := by rw [decide_eq_false_iff_not]; omega
                  have h2 : ((1 : Int) == (ql : Int) + 1) = true := by rw [beq_iff_eq]; omega
                  have h3 : decide (zn < v) = false := by rw [decide_eq_false_iff_not]; omega
                  clear hf
                  have hzz : ((zn : Int) != (zn : Int)) = false := by simp
                  go_wp2_with fail
                  go_roundg (zl - (m9 + 1))
                  case measure => omega
                  case rel => exact ⟨m9 + 1, rfl, by omega, by go_num, hin⟩
                · have hzz : ((zn : Int) != (to : Int)) = true := by simp; omega
                  obtain ⟨f, hf⟩ : ∃ f, f = (wayL g zn to).length := ⟨_, rfl⟩
                  have hp := Way_any wq a1 gn c1 a2 n2 c2 g (H.out.1.keep (HT.out.2.1.tr hin.out).kp) H.out.2.1 zn to
                  have hfl := HM.out.1
                  rw [farL, if_neg hzt, ← hf] at hfl
                  have hf34 : f ≤ 34 := by rw [hf]; exact wayL_len _ _ _
                  have HP := Lib.hid (And.intro hp (And.intro hf (And.intro hfl HT.out.2.2.2.2.2.2)))
                  clear hp hf hfl hwr hy1
                  go_wp2_with fail
                  refine HP.out.1.mono ?_
                  rintro e wy ⟨ya, yc, rfl, -, hcy⟩
                  rw [← HP.out.2.1]
                  have hy1 := (hin.out.tr hcy).cell HP.out.2.2.2 (by simp)
                  have hfl := HP.out.2.2.1
                  have HY := Lib.hid hcy
                  have hwr := HC.out
                  clear hcy x0 x1 g0 hcz
                  by_cases p1 : 0 < f
                  · have h1 : decide ((f : Int) < (ql : Int) + 1) = false := by rw [decide_eq_false_iff_not]; omega
                    by_cases p2 : f = ql + 1
                    · have h2 : ((f : Int) == (ql : Int) + 1) = true := by rw [beq_iff_eq]; omega
                      have h3 : decide (zn < v) = false := by rw [decide_eq_false_iff_not]; omega
                      clear hfl p2
                      go_wp2_with fail
                      go_roundg (zl - (m9 + 1))
                      case measure => omega
                      case rel => exact ⟨m9 + 1, rfl, by omega, by go_num, Lib.hid (hin.out.tr HY.out)⟩
                    · have h2 : ((f : Int) == (ql : Int) + 1) = false := by rw [beq_eq_false_iff_ne]; omega
                      clear hfl p2
                      go_wp2_with fail
                      go_roundg (zl - (m9 + 1))
                      case measure => omega
                      case rel => exact ⟨m9 + 1, rfl, by omega, by go_num, Lib.hid (hin.out.tr HY.out)⟩
                  · obtain rfl : f = 0 := by omega
                    clear hfl
                    go_wp2_with fail
                    go_roundg (zl - (m9 + 1))
                    case measure => omega
                    case rel => exact ⟨m9 + 1, rfl, by omega, by go_num, Lib.hid (hin.out.tr HY.out)⟩
              · obtain rfl : m9 = zl := by omega
                go_wp2_with fail
                go_ret
                exact ⟨rfl, HT.out.2.1.tr hin.out⟩
end Go.Proofs.Ytibgfgfmljhimaa

/-
  Small bodies, sound grammars, told by a test.
  Conditions: none.
-/
import Derived.Test.YtibgfgfmljhimaaGreatWtKB3
import Derived.Test.YtibgfgfmljhimaaGreatWtGAft
import Derived.Test.YtibgfgfmljhimaaGreatWtLn3
import Derived.Test.YtibgfgfmljhimaaGreatWtKB4
import Derived.Test.YtibgfgfmljhimaaGreatWtWeG
import Derived.Test.YtibgfgfmljhimaaGreatWtWeP
import Derived.Test.YtibgfgfmljhimaaGreatWtGramA
import Derived.Test.YtibgfgfmljhimaaGreatWtTG1
set_option linter.unusedVariables false
set_option linter.unusedSimpArgs false
namespace Go.Proofs.YtibgfgfmljhimaaGreat
open Go.RowKit Go.MapKept Go.Shelf

def smallB (ns : List Nd) : Bool := decide (ns.length ≤ 3000) && !ns.isEmpty && ns.all fun x => decide (x.kids.length ≤ 3000) && x.kids.all fun z => decide (-100000 ≤ z) && decide (z ≤ 100000)
theorem small_of {ns : List Nd} (h : smallB ns = true) : Small ns := by
  simp only [smallB, Bool.and_eq_true, decide_eq_true_eq, Bool.not_eq_true', List.all_eq_true] at h
  exact ⟨h.1.1, fun e => by rw [e] at h; simp at h, fun x hx => ⟨(h.2 x hx).1, fun z hz => (h.2 x hx).2 z hz⟩⟩
def wfB (g : Gr) : Bool := (g.nodes.all fun x => decide (I64 x.k) && decide (I64 x.r) && decide (I64 x.l) && (x.kids.all fun z => decide (I64 z)) && decide (x.s.size ≤ maxLen)) && g.rules.all fun r => decide (r.name.size ≤ maxLen) && decide (I64 r.body)
theorem wf_of {g : Gr} (h : wfB g = true) : g.Wf := by
  simp only [wfB, Bool.and_eq_true, decide_eq_true_eq, List.all_eq_true] at h
  exact ⟨fun x hx => ⟨(h.1 x hx).1.1.1.1, (h.1 x hx).1.1.1.2, (h.1 x hx).1.1.2, (h.1 x hx).1.2, (h.1 x hx).2⟩, fun r hr => (h.2 r hr).1, fun r hr => (h.2 r hr).2⟩
theorem NewGramRows.new {w : World} {g : Gr} {e : Ending} {w' : World} (h : NewGramRows w g e w') (wf : g.Wf) : NewGram w g e w' := by
  obtain ⟨a1, c1, a2, c2, L, h1, h2, h3, h4, h5⟩ := h
  obtain ⟨k1, k2, k3, k4⟩ := rules_row (row_base h3 (Nat.zero_le _))
  obtain ⟨m1, m2, m3⟩ := h4.read
  rw [h2] at m1
  have hl : L.length = g.nodes.length := by rw [← h2]; simp
  rw [hl] at m2
  exact ⟨a1, c1, a2, c2, h1, ⟨rfl, k3, k4, k1, rfl, m2, m3, m1, wf⟩, h5⟩
def reachB (g : Gr) : Bool := decide (g.rules.length ≤ 17592186044416) && decide (g.nodes.length ≤ 17592186044416) && g.nodes.all fun x => decide (x.kids.length ≤ 17592186044416)
theorem reach_of {g : Gr} (h : reachB g = true) : Reach g := by
  simp only [reachB, Bool.and_eq_true, decide_eq_true_eq, List.all_eq_true] at h
  exact ⟨h.1.1, h.1.2, h.2⟩

theorem kids_few {g : Gr} (h : smallG g) : g.rules.length ≤ 300 ∧ g.nodes.length ≤ 300 ∧ ∀ x ∈ g.nodes, x.kids.length ≤ 300 := by
  unfold smallG at h
  refine ⟨by omega, by omega, fun x hx => ?_⟩
  obtain ⟨i, hi, rfl⟩ := List.mem_iff_getElem.1 hx
  have := kids_le_sum g.nodes i hi
  omega

end Go.Proofs.YtibgfgfmljhimaaGreat
set_option linter.unusedVariables false
set_option linter.unusedSimpArgs false
set_option linter.unnecessarySimpa false
namespace Go.Proofs.YtibgfgfmljhimaaGreat
open Go.RowKit Go.MapKept Go.Shelf

set_option maxRecDepth 100000 in
set_option maxHeartbeats 2000000 in
theorem size15_any (w : World) (a1 : Option Addr) (n1 c1 : Nat) (a2 : Option Addr) (n2 c2 : Nat) (g : Gr) (hg : GramAt w a1 n1 c1 a2 n2 c2 g) (hr : Reach g) :
    Calls Tryz.prog 30 #[.agg #[.slice a1 n1 c1, .slice a2 n2 c2]] w (SizePost g w) := by
  have hb1 : n1 ≤ 17592186044416 := by rw [hg.e1]; exact hr.1
  have hb2 : n2 ≤ 17592186044416 := by rw [hg.e2]; exact hr.2.1
  have HG := Lib.hid (And.intro hg hr)
  clear hg hr
  go_enter Tryz.func30, Tryz.ntmps30
  go_wp2_with fail
  go_loop [3, 4] (fun xv kv => ∃ k m : Nat, k ≤ n2 ∧ kv = .int .i64 k ∧ xv = .int .i64 m ∧ m ≤ 70368744177664 ∧ Hid (m = n1 + n2 + kidsSum (g.nodes.take k))) (fun _ kv => n2 - (intOf kv).toNat)
  case atStart => exact ⟨0, n1 + n2, Nat.zero_le _, rfl, by go_num, by omega, Lib.hid (by simp [kidsSum])⟩
  case round =>
    obtain ⟨k, m, hk, rfl, rfl, hm, hin⟩ := hrel
    by_cases hlt : k < n2
    · have hkl : k < g.nodes.length := by have := HG.out.1.e2; omega
      by_cases hm3 : m ≤ 300
      · obtain ⟨b, o, ak, nk, ck, rfl, hx⟩ := HG.out.1.nodes k hkl
        have h8 := hx.kids
        have hkk : nk ≤ 17592186044416 := by rw [hx.len]; exact HG.out.2.2.2 _ (List.getElem_mem hkl)
        have hb8 := World.block_lt_of_cell? _ _ h8
        simp only at hb8
        have HX := Lib.hid hx.len
        clear hx
        go_wp2
        go_round
        case rel =>
          refine ⟨k + 1, m + nk, by omega, by go_num, by go_num, by omega, Lib.hid ?_⟩
          rw [List.take_succ_eq_append_getElem hkl, kidsSum_snoc, ← HX.out, hin.out]
          omega
        case measure => simp [intOf]; omega
      · go_wp2
        go_ret
        refine ⟨_, rfl, fun hs => ?_, fun _ => by omega, (Chg.refl _ _).alloc _⟩
        exfalso
        have h1 := kidsSum_take_le g.nodes k
        have h2 := hin.out
        have h3 := HG.out.1.e1
        have h4 := HG.out.1.e2
        unfold smallG at hs
        omega
    · obtain rfl : k = n2 := by omega
      go_wp2
      go_ret
      have h2 := hin.out
      have h3 := HG.out.1.e1
      have h4 := HG.out.1.e2
      rw [h4, List.take_length] at h2
      refine ⟨_, rfl, fun hs => ?_, fun hs => ?_, (Chg.refl _ _).alloc _⟩
      · unfold smallG at hs; omega
      · unfold smallG at hs; omega


def ex15 : Gr := gramL [ofL 6 [ofL 8 [[callN 1 0]], ofL 9 [[wordN ⟨#[97]⟩]]], ofL 6 [ofL 11 [[wordN ⟨#[97]⟩]], ofL 10 [[bareN 2]]]]
def exH15 : Gr := gramL [ofL 10 [ofL 10 [[wordN ⟨#[97]⟩]]]]
theorem ex15_says : rightB ex15 = true ∧ idleL ex15 = [1] ∧ wellB ex15 = false ∧ wellB exH15 = true := by decide +kernel
theorem ex15_mend : ((mendG ex15).nodes[1]?).map (·.k) = some 10 := by decide +kernel
theorem ex15_k (h : 1 < (mendG ex15).nodes.length) : (mendG ex15).nodes[1].k = 10 := by
  have := ex15_mend
  rw [List.getElem?_eq_getElem h] at this
  simpa using this
theorem mend_wf {g : Gr} (h : g.Wf) : (mendG g).Wf := ⟨fun x hx => by
  obtain ⟨j, hj, rfl⟩ := List.getElem_of_mem hx
  have hj' : j < g.nodes.length := by rw [show (mendG g).nodes.length = g.nodes.length from mendL_len _ _] at hj; exact hj
  have hat : (mendG g).nodes[j] = if (j : Int) ∈ idleL g then g.nodes[j].setK 10 else g.nodes[j] := mendL_at hj'
  have hw := h.nodes _ (List.getElem_mem hj')
  rw [hat]
  split
  · exact ⟨by unfold I64; simp [Nd.setK], hw.r, hw.l, hw.kids, hw.s⟩
  · exact hw, h.names, h.bodies⟩
theorem OwnG.at_ {B : Nat} {w : World} {b1 : Option Addr} {d1 : Nat} {b2 : Option Addr} {d2 n1 n2 : Nat} {L : List Cp} {g : Gr} (h : OwnG B w b1 d1 b2 d2 L g.rules) (hL : L.map (·.1) = g.nodes) (h1 : n1 = g.rules.length) (h2 : n2 = g.nodes.length) (wf : g.Wf) : GramAt w b1 n1 d1 b2 n2 d2 g := by
  have := h.gram (by rw [hL]; exact wf)
  rw [hL] at this
  have hl : L.length = g.nodes.length := by rw [← hL, List.length_map]
  rw [hl, ← h1, ← h2] at this
  exact this
theorem ints_lit15 {w : World} {zs : List Int} {k : Nat} {t : TypeId} (h : w.heap[k]? = some (.cells (zs.map (Value.int .i64)).toArray t (0, 0))) : Ints w (some ⟨k, 0, none⟩) zs := by
  intro i hi
  refine ⟨k, 0, rfl, ?_⟩
  rw [cell_of_cells h]
  simp [hi]

set_option maxRecDepth 100000 in
set_option maxHeartbeats 8000000 in
theorem example15_any (w : World) : Calls Tryz.prog 36 #[] w (NewGram w ex15) := by
  go_enter Tryz.func36, Tryz.ntmps36
  go_wp2_with fail
  refine (CallB_any _ _ _).mono ?_
  rintro e w1 ⟨a1, c1, rfl, n1, -, -, h1⟩
  have cm := h1
  have A1 := Lib.hid (And.intro cm (n1))
  clear cm h1 n1
  go_wp2_with fail
  refine ((In_any _ _ a1 c1 ([callN 1 0]) A1.out.2 (small_of (by decide +kernel))).mono fun _ _ h => h.body).mono ?_
  rintro e w2 ⟨a2, c2, rfl, n2, -, -, h2⟩
  have cm := (A1.out.1).tr h2
  have A2 := Lib.hid (And.intro cm (n2))
  clear cm h2 n2
  go_wp2_with fail
  refine (Word_any _ _).mono ?_
  rintro e w3 ⟨a3, c3, rfl, n3, -, -, h3⟩
  have n2 := (A2.out.2).keep h3.kp
  have cm := (A2.out.1).tr h3
  have A3 := Lib.hid (And.intro cm (And.intro n2 (n3)))
  clear cm h3 n2 n3
  go_wp2_with fail
  refine ((In_any _ _ a3 c3 ([wordN ⟨#[97]⟩]) A3.out.2.2 (small_of (by decide +kernel))).mono fun _ _ h => h.body).mono ?_
  rintro e w4 ⟨a4, c4, rfl, n4, -, -, h4⟩
  have n2 := (A3.out.2.1).keep h4.kp
  have cm := (A3.out.1).tr h4
  have A4 := Lib.hid (And.intro cm (And.intro n2 (n4)))
  clear cm h4 n2 n4
  go_wp2_with fail
  refine ((Chain_any _ a2 c2 (ofL 8 [[callN 1 0]]) a4 c4 (ofL 9 [[wordN ⟨#[97]⟩]]) A4.out.2.1 (small_of (by decide +kernel)) A4.out.2.2 (small_of (by decide +kernel)) (by decide +kernel)).mono fun _ _ h => h.body).mono ?_
  rintro e w5 ⟨a5, c5, rfl, n5, -, -, h5⟩
  have cm := (A4.out.1).tr h5
  have A5 := Lib.hid (And.intro cm (n5))
  clear cm h5 n5
  go_wp2_with fail
  refine (Word_any _ _).mono ?_
  rintro e w6 ⟨a6, c6, rfl, n6, -, -, h6⟩
  have n5 := (A5.out.2).keep h6.kp
  have cm := (A5.out.1).tr h6
  have A6 := Lib.hid (And.intro cm (And.intro n5 (n6)))
  clear cm h6 n5 n6
  go_wp2_with fail
  refine ((In_any _ _ a6 c6 ([wordN ⟨#[97]⟩]) A6.out.2.2 (small_of (by decide +kernel))).mono fun _ _ h => h.body).mono ?_
  rintro e w7 ⟨a7, c7, rfl, n7, -, -, h7⟩
  have n5 := (A6.out.2.1).keep h7.kp
  have cm := (A6.out.1).tr h7
  have A7 := Lib.hid (And.intro cm (And.intro n5 (n7)))
  clear cm h7 n5 n7
  go_wp2_with fail
  refine (Leaf_any _ _).mono ?_
  rintro e w8 ⟨a8, c8, rfl, n8, -, -, h8⟩
  have n5 := (A7.out.2.1).keep h8.kp
  have n7 := (A7.out.2.2).keep h8.kp
  have cm := (A7.out.1).tr h8
  have A8 := Lib.hid (And.intro cm (And.intro n5 (And.intro n7 (n8))))
  clear cm h8 n5 n7 n8
  go_wp2_with fail
  refine ((In_any _ _ a8 c8 ([bareN 2]) A8.out.2.2.2 (small_of (by decide +kernel))).mono fun _ _ h => h.body).mono ?_
  rintro e w9 ⟨a9, c9, rfl, n9, -, -, h9⟩
  have n5 := (A8.out.2.1).keep h9.kp
  have n7 := (A8.out.2.2.1).keep h9.kp
  have cm := (A8.out.1).tr h9
  have A9 := Lib.hid (And.intro cm (And.intro n5 (And.intro n7 (n9))))
  clear cm h9 n5 n7 n9
  go_wp2_with fail
  refine ((Chain_any _ a7 c7 (ofL 11 [[wordN ⟨#[97]⟩]]) a9 c9 (ofL 10 [[bareN 2]]) A9.out.2.2.1 (small_of (by decide +kernel)) A9.out.2.2.2 (small_of (by decide +kernel)) (by decide +kernel)).mono fun _ _ h => h.body).mono ?_
  rintro e w10 ⟨a10, c10, rfl, n10, -, -, h10⟩
  have n5 := (A9.out.2.1).keep h10.kp
  have cm := (A9.out.1).tr h10
  have A10 := Lib.hid (And.intro cm (And.intro n5 (n10)))
  clear cm h10 n5 n10
  go_wp2_with fail
  have hk := bodies_made (w := w10.alloc (.cells #[.slice a5 (ofL 6 [ofL 8 [[callN 1 0]], ofL 9 [[wordN ⟨#[97]⟩]]]).length c5, .slice a10 (ofL 6 [ofL 11 [[wordN ⟨#[97]⟩]], ofL 10 [[bareN 2]]]).length c10] 23)) (vs := [(a5, c5), (a10, c10)]) (KL := [ofL 6 [ofL 8 [[callN 1 0]], ofL 9 [[wordN ⟨#[97]⟩]]], ofL 6 [ofL 11 [[wordN ⟨#[97]⟩]], ofL 10 [[bareN 2]]]]) rfl (by
    intro i h
    have hi : i = 0 ∨ i = 1 := by simp at h; omega
    rcases hi with rfl | rfl
    · exact (A10.out.2.1).keep ((Chg.refl [] w10).alloc _).kp
    · exact (A10.out.2.2).keep ((Chg.refl [] w10).alloc _).kp
    ) (heap_alloc_same w10 _)
  refine ((Gram_any _ _ 2 2 _ rfl hk (fun b hb => small_of (List.all_eq_true.1 (show ([ofL 6 [ofL 8 [[callN 1 0]], ofL 9 [[wordN ⟨#[97]⟩]]], ofL 6 [ofL 11 [[wordN ⟨#[97]⟩]], ofL 10 [[bareN 2]]]]).all smallB = true by decide +kernel) b hb)) (by decide +kernel) (by decide)).mono fun _ _ h => NewGramRows.new (g := ex15) h (wf_of (by decide +kernel))).mono ?_
  rintro e w11 ⟨b1, d1, b2, d2, rfl, hg, hc⟩
  have cm := (((A10.out.1).alloc (.cells #[.slice a5 (ofL 6 [ofL 8 [[callN 1 0]], ofL 9 [[wordN ⟨#[97]⟩]]]).length c5, .slice a10 (ofL 6 [ofL 11 [[wordN ⟨#[97]⟩]], ofL 10 [[bareN 2]]]).length c10] 23)).tr0 hc)
  have hb := cm.heap (heap_alloc_same w (.cells #[.slice none 0 0, .slice none 0 0] 25)) (by simp)
  obtain ⟨x0, x1⟩ := cells2 hb
  have f0 := free_of_cells hb 0
  have f1 := free_of_cells hb 1
  obtain ⟨rl, hrl⟩ : ∃ rl, rl = ex15.rules.length := ⟨_, rfl⟩
  obtain ⟨nl, hnl⟩ : ∃ nl, nl = ex15.nodes.length := ⟨_, rfl⟩
  rw [← hrl, ← hnl]
  have H := Lib.hid (And.intro hg (And.intro cm (And.intro hb (And.intro hrl hnl))))
  clear hg cm hb hk hc hrl hnl
  go_wp2_with fail
  clear x0 x1 f0 f1
  obtain ⟨hg, cm, hb, hrl, hnl⟩ := H.out
  have hc := ((Chg.refl [w.heap.size] w11).setCell (p := ⟨w.heap.size, 0, none⟩) (.inl (by simp)) (.slice b1 rl d1)).setCell (p := ⟨w.heap.size, 1, none⟩) (.inl (by simp)) (.slice b2 nl d2)
  have hz := heap_setCell_same (heap_setCell_same hb 0 (.slice b1 rl d1)) 1 (.slice b2 nl d2)
  simp at hz
  obtain ⟨y0, y1⟩ := cells2 hz
  have hTl := lt_of_block hz
  refine bodyPost_ret (v := .agg #[.slice b1 rl d1, .slice b2 nl d2]) (by simp [results, Tryz.results36, go_sem, y0, y1, hTl]) rfl ?_
  have hT2 : TwoS w11 w.heap.size 25 := ⟨_, _, _, _, _, _, hb⟩
  exact ⟨b1, d1, b2, d2, by rw [hrl, hnl], ⟨hg.e1, hg.le1, hg.cap1, hg.rules.two hT2 hc, hg.e2, hg.le2, hg.cap2, hg.nodes.two hT2 hc, hg.wf⟩, (((Chg.refl [] w).alloc _).tr0 cm).trans hc (fun i hi => .inr (by simp at hi; omega))⟩

set_option maxRecDepth 100000 in
set_option maxHeartbeats 8000000 in
theorem awake15_any (w : World) : Calls Tryz.prog 31 #[] w fun e w' => e = .returned (.bool true) ∧ Chg [] w w' := by
  go_enter Tryz.func31, Tryz.ntmps31
  go_wp2_with fail
  refine (example15_any _).mono ?_
  rintro e y1 ⟨p1, q1, p2, q2, rfl, hg1, hc1⟩
  have cA := (Chg.refl [] y1).alloc (.cells #[.slice p1 ex15.rules.length q1, .slice p2 ex15.nodes.length q2] 25)
  have F1 := Lib.hid (And.intro (hc1.tr cA) (And.intro (heap_alloc_same y1 (.cells #[.slice p1 ex15.rules.length q1, .slice p2 ex15.nodes.length q2] 25)) (hg1.keep cA.kp)))
  clear hg1 hc1 cA
  obtain ⟨x0, x1⟩ := cells2 F1.out.2.1
  go_wp2_with fail
  have hp := wellFirst_any _ p1 _ q1 p2 _ q2 ex15 F1.out.2.2 (reach_of (by decide +kernel))
  rw [ex15_says.2.1] at hp
  simp only [firstV, List.headD_cons, List.isEmpty_cons, Bool.not_false] at hp
  refine hp.mono ?_
  rintro e y2 ⟨rfl, h⟩
  have F2 := Lib.hid (And.intro (F1.out.1.tr h) (And.intro (h.heap F1.out.2.1 (by simp)) (F1.out.2.2.keep h.kp)))
  clear h hp x0 x1
  obtain ⟨x0, x1⟩ := cells2 F2.out.2.1
  go_wp2_with fail
  have hp := wellMend_any _ p1 _ q1 p2 _ q2 ex15 F2.out.2.2 (reach_of (by decide +kernel)) (by decide +kernel) (by decide +kernel) (by decide +kernel)
  refine hp.mono ?_
  rintro e y3 ⟨hif, h⟩
  rw [if_pos ex15_says.1] at hif
  obtain ⟨b1, d1, b2, d2, L, rfl, hL, hO⟩ := hif
  have hgm : GramAt y3 b1 ex15.rules.length d1 b2 ex15.nodes.length d2 (mendG ex15) := OwnG.at_ (g := mendG ex15) hO hL rfl (mendL_len _ _).symm (mend_wf F2.out.2.2.wf)
  have cA := (Chg.refl [] y3).alloc (.cells #[.slice b1 ex15.rules.length d1, .slice b2 ex15.nodes.length d2] 25)
  have F3 := Lib.hid (And.intro ((F2.out.1.tr h).tr cA) (And.intro (cA.heap (h.heap F2.out.2.1 (by simp)) (by simp)) (And.intro ((F2.out.2.2.keep h.kp).keep cA.kp) (And.intro (heap_alloc_same y3 (.cells #[.slice b1 ex15.rules.length d1, .slice b2 ex15.nodes.length d2] 25)) (hgm.keep cA.kp)))))
  clear h hp x0 x1 hgm cA hL hO
  go_wp2_with fail
  refine (Word_any _ _).mono ?_
  rintro e w1 ⟨a1, c1, rfl, n1, -, -, h1⟩
  have cm := h1
  have A1 := Lib.hid (And.intro cm (n1))
  clear cm h1 n1
  go_wp2_with fail
  refine ((In_any _ _ a1 c1 ([wordN ⟨#[97]⟩]) A1.out.2 (small_of (by decide +kernel))).mono fun _ _ h => h.body).mono ?_
  rintro e w2 ⟨a2, c2, rfl, n2, -, -, h2⟩
  have cm := (A1.out.1).tr h2
  have A2 := Lib.hid (And.intro cm (n2))
  clear cm h2 n2
  go_wp2_with fail
  refine ((In_any _ _ a2 c2 (ofL 10 [[wordN ⟨#[97]⟩]]) A2.out.2 (small_of (by decide +kernel))).mono fun _ _ h => h.body).mono ?_
  rintro e w3 ⟨a3, c3, rfl, n3, -, -, h3⟩
  have cm := (A2.out.1).tr h3
  have A3 := Lib.hid (And.intro cm (n3))
  clear cm h3 n3
  go_wp2_with fail
  have hk := bodies_made (w := w3.alloc (.cells #[.slice a3 (ofL 10 [ofL 10 [[wordN ⟨#[97]⟩]]]).length c3] 23)) (vs := [(a3, c3)]) (KL := [ofL 10 [ofL 10 [[wordN ⟨#[97]⟩]]]]) rfl (by
    intro i h
    have hi : i = 0 := by simp at h; omega
    rcases hi with rfl
    · exact (A3.out.2).keep ((Chg.refl [] w3).alloc _).kp
    ) (heap_alloc_same w3 _)
  refine ((Gram_any _ _ 1 1 _ rfl hk (fun b hb => small_of (List.all_eq_true.1 (show ([ofL 10 [ofL 10 [[wordN ⟨#[97]⟩]]]]).all smallB = true by decide +kernel) b hb)) (by decide +kernel) (by decide)).mono fun _ _ h => NewGramRows.new (g := exH15) h (wf_of (by decide +kernel))).mono ?_
  rintro e w4 ⟨s1, t1, s2, t2, rfl, hg, hc⟩
  have cm := (((A3.out.1).alloc (.cells #[.slice a3 (ofL 10 [ofL 10 [[wordN ⟨#[97]⟩]]]).length c3] 23)).tr0 hc)
  have cA := (Chg.refl [] w4).alloc (.cells #[.slice s1 exH15.rules.length t1, .slice s2 exH15.nodes.length t2] 25)
  have cB := cm.tr cA
  have F4 := Lib.hid (And.intro (F3.out.1.tr cB) (And.intro (cB.heap F3.out.2.1 (by simp)) (And.intro (F3.out.2.2.1.keep cB.kp) (And.intro (cB.heap F3.out.2.2.2.1 (by simp)) (And.intro (F3.out.2.2.2.2.keep cB.kp) (And.intro (heap_alloc_same w4 (.cells #[.slice s1 exH15.rules.length t1, .slice s2 exH15.nodes.length t2] 25)) (hg.keep cA.kp)))))))
  clear hg hc cm hk cA cB
  have n1 : 1 < ex15.nodes.length := by decide +kernel
  have n2 : ex15.nodes.length ≤ 9223372036854775807 := by decide +kernel
  obtain ⟨x0, x1⟩ := cells2 F4.out.2.1
  obtain ⟨u0, u1⟩ := cells2 F4.out.2.2.2.1
  obtain ⟨v0, v1⟩ := cells2 F4.out.2.2.2.2.2.1
  go_wp2_with fail
  have hp := wellAll_any _ p1 _ q1 p2 _ q2 ex15 F4.out.2.2.1 (reach_of (by decide +kernel))
  rw [ex15_says.2.1] at hp
  refine hp.mono ?_
  rintro e z1 ⟨la, lc, rfl, hf, h⟩
  have hints := (ownInts_read hf.own).1
  have F5 := Lib.hid (And.intro (F4.out.1.tr h) (And.intro (h.heap F4.out.2.1 (by simp)) (And.intro (F4.out.2.2.1.keep h.kp) (And.intro (h.heap F4.out.2.2.2.1 (by simp)) (And.intro (F4.out.2.2.2.2.1.keep h.kp) (And.intro (h.heap F4.out.2.2.2.2.2.1 (by simp)) (F4.out.2.2.2.2.2.2.keep h.kp)))))))
  clear h hf hp x0 x1 u0 u1 v0 v1
  obtain ⟨x0, x1⟩ := cells2 F5.out.2.1
  obtain ⟨u0, u1⟩ := cells2 F5.out.2.2.2.1
  obtain ⟨v0, v1⟩ := cells2 F5.out.2.2.2.2.2.1
  go_wp2_with fail
  have hlit := ints_lit15 (zs := [1]) (heap_alloc_same z1 (.cells #[.int .i64 1] 3))
  have hp := sameInts_any (z1.alloc (.cells #[.int .i64 1] 3)) la _ 1 lc 1 1 [1] [1] rfl rfl (by decide) (hints.keep ((Chg.refl [] z1).alloc (.cells #[.int .i64 1] 3)).kp) hlit
  rw [decide_eq_true rfl] at hp
  refine hp.mono ?_
  rintro e z2 ⟨rfl, h⟩
  have hh : Chg [] z1 z2 := ((Chg.refl [] z1).alloc _).tr0 h
  have F6 := Lib.hid (And.intro (F5.out.1.tr hh) (And.intro (hh.heap F5.out.2.1 (by simp)) (And.intro (F5.out.2.2.1.keep hh.kp) (And.intro (hh.heap F5.out.2.2.2.1 (by simp)) (And.intro (F5.out.2.2.2.2.1.keep hh.kp) (And.intro (hh.heap F5.out.2.2.2.2.2.1 (by simp)) (F5.out.2.2.2.2.2.2.keep hh.kp)))))))
  clear h hh hp hlit hints x0 x1 u0 u1 v0 v1
  obtain ⟨x0, x1⟩ := cells2 F6.out.2.1
  obtain ⟨u0, u1⟩ := cells2 F6.out.2.2.2.1
  obtain ⟨v0, v1⟩ := cells2 F6.out.2.2.2.2.2.1
  go_wp2_with fail
  have hp := wellWell_any _ p1 _ q1 p2 _ q2 ex15 (F6.out.2.2.1) (reach_of (by decide +kernel))
  rw [ex15_says.2.2.1] at hp
  refine hp.mono ?_
  rintro e z3 ⟨rfl, h⟩
  have F7 := Lib.hid (And.intro (F6.out.1.tr h) (And.intro (h.heap F6.out.2.1 (by simp)) (And.intro (F6.out.2.2.1.keep h.kp) (And.intro (h.heap F6.out.2.2.2.1 (by simp)) (And.intro (F6.out.2.2.2.2.1.keep h.kp) (And.intro (h.heap F6.out.2.2.2.2.2.1 (by simp)) (F6.out.2.2.2.2.2.2.keep h.kp)))))))
  clear h hp x0 x1 u0 u1 v0 v1
  obtain ⟨x0, x1⟩ := cells2 F7.out.2.1
  obtain ⟨u0, u1⟩ := cells2 F7.out.2.2.2.1
  obtain ⟨v0, v1⟩ := cells2 F7.out.2.2.2.2.2.1
  go_wp2_with fail
  have hp := wellWell_any _ s1 _ t1 s2 _ t2 exH15 (F7.out.2.2.2.2.2.2) (reach_of (by decide +kernel))
  rw [ex15_says.2.2.2] at hp
  refine hp.mono ?_
  rintro e z4 ⟨rfl, h⟩
  have F8 := Lib.hid (And.intro (F7.out.1.tr h) (And.intro (h.heap F7.out.2.1 (by simp)) (And.intro (F7.out.2.2.1.keep h.kp) (And.intro (h.heap F7.out.2.2.2.1 (by simp)) (And.intro (F7.out.2.2.2.2.1.keep h.kp) (And.intro (h.heap F7.out.2.2.2.2.2.1 (by simp)) (F7.out.2.2.2.2.2.2.keep h.kp)))))))
  clear h hp x0 x1 u0 u1 v0 v1
  obtain ⟨bm, om, am, nm, cm, rfl, hx⟩ := F8.out.2.2.2.2.1.nodes 1 (by decide +kernel)
  have k0 := hx.k
  rw [ex15_k] at k0
  simp only [Nat.one_mul] at k0
  clear hx
  obtain ⟨x0, x1⟩ := cells2 F8.out.2.1
  obtain ⟨u0, u1⟩ := cells2 F8.out.2.2.2.1
  obtain ⟨v0, v1⟩ := cells2 F8.out.2.2.2.2.2.1
  go_wp2_with fail
  have hp := wellWell_any _ _ _ d1 _ _ d2 (mendG ex15) (F8.out.2.2.2.2.1) (reach_of (by decide +kernel))
  rw [mend_well ex15_says.1] at hp
  refine hp.mono ?_
  rintro e z5 ⟨rfl, h⟩
  have F9 := Lib.hid (And.intro (F8.out.1.tr h) (And.intro (h.heap F8.out.2.1 (by simp)) (And.intro (F8.out.2.2.1.keep h.kp) (And.intro (h.heap F8.out.2.2.2.1 (by simp)) (And.intro (F8.out.2.2.2.2.1.keep h.kp) (And.intro (h.heap F8.out.2.2.2.2.2.1 (by simp)) (F8.out.2.2.2.2.2.2.keep h.kp)))))))
  clear h hp x0 x1 u0 u1 v0 v1
  go_wp2_with fail
  go_ret
  exact ⟨rfl, F9.out.1⟩
end Go.Proofs.YtibgfgfmljhimaaGreat
set_option linter.unusedVariables false
set_option linter.unusedSimpArgs false
namespace Go.Proofs.YtibgfgfmljhimaaGreat
open Go.RowKit Go.MapKept Go.Shelf

theorem tmod_emodK (x n : Int) : x.tmod n % n = x % n := by
  have h := Int.mul_tdiv_add_tmod x n
  have : x.tmod n = x - n * x.tdiv n := by omega
  rw [this, Int.sub_mul_emod_self_left]
theorem pick_posK (x n : Int) (hn : 1 ≤ n) (h : 0 ≤ x.tmod n) : x.tmod n = x % n := by
  have t1 := Int.tmod_lt_of_pos x (show 0 < n by omega)
  rw [← tmod_emodK, Int.emod_eq_of_lt h t1]
theorem pick_negK (x n : Int) (hn : 1 ≤ n) (h : x.tmod n < 0) : x.tmod n + n = x % n := by
  have t2 := Int.lt_tmod_of_pos x (show 0 < n by omega)
  rw [← tmod_emodK, ← Int.add_emod_right, Int.emod_eq_of_lt (by omega) (by omega)]
set_option maxHeartbeats 400000 in
theorem pickK_any (x n : Int) (w : World) (hn : 1 ≤ n) (hn2 : n ≤ 1000000) (h1 : -9223372036854775808 ≤ x) (h2 : x ≤ 9223372036854775807) :
    Calls Tryz.prog 13 #[.int .i64 x, .int .i64 n] w fun e w' => e = .returned (.int .i64 (x % n)) ∧ Chg [] w w' := by
  have t1 := Int.tmod_lt_of_pos x (show 0 < n by omega)
  have t2 := Int.lt_tmod_of_pos x (show 0 < n by omega)
  go_enter Tryz.func13, Tryz.ntmps13
  go_wp2
  all_goals go_ret
  all_goals refine ⟨ret_int ?_, Chg.refl _ _⟩
  · exact pick_negK x n hn (by assumption)
  · exact pick_posK x n hn (by assumption)
end Go.Proofs.YtibgfgfmljhimaaGreat
set_option linter.unusedVariables false
set_option linter.unusedSimpArgs false
set_option linter.unnecessarySimpa false
namespace Go.Proofs.YtibgfgfmljhimaaGreat
open Go.RowKit Go.MapKept Go.Shelf

set_option maxHeartbeats 400000 in
theorem pickK0_any (x : Int) (w : World) :
    Calls Tryz.prog 13 #[.int .i64 x, .int .i64 0] w fun e w' => e = .returned (.int .i64 0) ∧ Chg [] w w' := by
  go_enter Tryz.func13, Tryz.ntmps13
  go_wp2
  all_goals go_ret
  all_goals exact ⟨rfl, Chg.refl _ _⟩
theorem pickKn_any (x : Int) (n : Nat) (w : World) (hn2 : n ≤ 1000000) (h : I64 x) :
    Calls Tryz.prog 13 #[.int .i64 x, .int .i64 (n : Int)] w fun e w' => e = .returned (.int .i64 (if n = 0 then 0 else x % n)) ∧ Chg [] w w' := by
  by_cases h0 : n = 0
  · subst h0
    rw [if_pos rfl]
    exact pickK0_any x w
  · rw [if_neg h0]
    exact pickK_any x n w (by omega) (by omega) h.1 h.2

end Go.Proofs.YtibgfgfmljhimaaGreat
set_option linter.unusedVariables false
set_option linter.unusedSimpArgs false
set_option linter.unnecessarySimpa false
namespace Go.Proofs.YtibgfgfmljhimaaGreat
open Go.RowKit Go.MapKept Go.Shelf

set_option maxRecDepth 100000 in
set_option maxHeartbeats 16000000 in
theorem wellTellsLaw_any (w : World) (a1 : Option Addr) (n1 c1 : Nat) (a2 : Option Addr) (n2 c2 : Nat) (g : Gr) (hg : GramAt w a1 n1 c1 a2 n2 c2 g) (hre : Reach g) (n : Int) (hi1 : I64 n) :
    Calls Tryz.prog 8 #[.agg #[.slice a1 n1 c1, .slice a2 n2 c2], .int .i64 n] w fun e w' => e = .returned (.bool true) ∧ Chg [] w w' := by
  have H := Lib.hid (And.intro hg (And.intro hre (And.intro hg.e1 hg.e2)))
  clear hg hre
  go_enter Tryz.func8, Tryz.ntmps8
  have hb1 := heap_alloc_same w (.cells #[.slice a1 n1 c1, .slice a2 n2 c2] 25)
  have H1 := Lib.hid (And.intro hb1 ((Chg.refl [] w).alloc (.cells #[.slice a1 n1 c1, .slice a2 n2 c2] 25)))
  clear hb1
  obtain ⟨x0, x1⟩ := cells2 H1.out.1
  go_wp2_with fail
  refine (size15_any _ a1 n1 c1 a2 n2 c2 g (H.out.1.keep H1.out.2.kp) H.out.2.1).mono ?_
  rintro e w2 ⟨m, rfl, hm1, hm2, hc2⟩
  have H2 := Lib.hid (And.intro (hc2.heap H1.out.1 (by simp)) (H1.out.2.tr hc2))
  clear hc2 x0 x1
  by_cases hm : (300 : Int) < m
  · go_wp2_with fail
    refine (awake15_any _).mono ?_
    rintro e w3 ⟨rfl, hc3⟩
    go_wp2_with fail
    go_ret
    exact ⟨rfl, H2.out.2.tr hc3⟩
  · have hsm : smallG g := by
      by_cases hq : smallG g
      · exact hq
      · exact absurd (hm2 hq) hm
    obtain ⟨z1, z2, z3⟩ := kids_few hsm
    have hn1 : n1 ≤ 300 := by have := H.out.2.2.1; omega
    have hn2 : n2 ≤ 300 := by have := H.out.2.2.2; omega
    have hG : ∀ W, Chg [] w2 W → GramAt W a1 n1 c1 a2 n2 c2 g := fun W hW => H.out.1.keep (H2.out.2.tr hW).kp
    have hre := H.out.2.1
    have k1 := calls_rg (w := w2) (fun w1 h1 => tells15_any w1 a1 n1 c1 a2 n2 c2 g (hG w1 h1) hre hn1 hn2 (fun x hx => by have := z3 x hx; omega) n)
    obtain ⟨p1, hp1⟩ : ∃ p1, p1 = (if n2 = 0 then 0 else n % n2) := ⟨_, rfl⟩
    have k2 := calls_rg (w := w2) (fun w1 h1 => tells15_any w1 a1 n1 c1 a2 n2 c2 g (hG w1 h1) hre hn1 hn2 (fun x hx => by have := z3 x hx; omega) p1)
    have k3 := calls_rg (w := w2) (fun w1 h1 => pickKn_any n n2 w1 (by omega) hi1)
    have k5 := calls_rg (w := w2) (fun w1 h1 => awake15_any w1)
    rw [← hp1] at k3
    obtain ⟨x0, x1⟩ := cells2 H2.out.1
    have kx0 := cell_rg x0
    have kx1 := cell_rg x1
    clear x0 x1 hp1 hG hre z1 z2 z3 hsm hm1 hm2
    go_wp2_with fail
    refine wp_region_quiet_below (by kernel_rfl) (by kernel_rfl) ?_
    repeat (go_big_quiet_step (first | (with_reducible exact k1 _ _) | (with_reducible exact k2 _ _) | (with_reducible exact k3 _ _) | (with_reducible exact k5 _ _)))
    refine wpQuiet_nil ?_
    intro w4 hw4
    have HW := Lib.hid (H2.out.2.tr (chg_of_rg hw4))
    clear hw4 k1 k2 k3 k5 kx0 kx1
    go_wp2_with fail
    go_ret
    exact ⟨rfl, HW.out⟩
end Go.Proofs.YtibgfgfmljhimaaGreat

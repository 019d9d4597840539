/-
  The document's answer of layer 11: whether a node may match nothing, by rules of some ranks.
  Conditions: the grammar is right; a rank is told of each rule.
-/
import Derived.Test.YtibgfgfmljhimaaGreatWe9Nu0
import Derived.Test.YtibgfgfmljhimaaGreatWe9WeA
import Derived.Test.YtibgfgfmljhimaaGreatWe9GAft
set_option linter.unusedVariables false
set_option linter.unusedSimpArgs false
set_option linter.unnecessarySimpa false
namespace Go.Proofs.YtibgfgfmljhimaaGreat
open Go.RowKit Go.MapKept Go.Shelf

/-- By ranks from 1 on and below a number. -/
def callsB (zs : List Int) (b : Int) (q : Int) : Bool := decide (0 ≤ q) && (match zs[q.toNat]? with | some z => decide (0 < z) && decide (z < b) | none => false)
theorem right_plus {g : Gr} (h : rightB g = true) {n : Nat} (hn : n < g.nodes.length) (hk : g.nodes[n].k = 9) : g.nodes[n].kids.length = 1 := by
  have h1 := right_node h hn
  unfold nodeB nodeN at h1
  repeat' split at h1
  all_goals first | omega | (rw [Bool.and_eq_true, decide_eq_true_eq] at h1; exact h1.2) | cases h1
theorem right_call {g : Gr} (h : rightB g = true) {n : Nat} (hn : n < g.nodes.length) (hk : g.nodes[n].k = 5) : 0 ≤ g.nodes[n].r ∧ g.nodes[n].r < g.rules.length := by
  have h1 := right_node h hn
  unfold nodeB nodeN at h1
  repeat' split at h1
  all_goals first | omega | (simp only [Bool.and_eq_true, decide_eq_true_eq] at h1; omega) | cases h1

set_option maxRecDepth 100000 in
set_option maxHeartbeats 16000000 in
theorem refMay_any (a1 : Option Addr) (n1 c1 : Nat) (a2 : Option Addr) (n2 c2 : Nat) (g : Gr) (hr : rightB g = true) (az : Option Addr) (nz cz : Nat) (zs : List Int) (hzl : zs.length = g.rules.length) (hnz : nz = zs.length) (below : Int) :
    ∀ (d n : Nat), g.nodes.length - n ≤ d → n < g.nodes.length → ∀ w, GramAt w a1 n1 c1 a2 n2 c2 g → Ints w az zs →
    Calls Tryz.prog 88 #[.agg #[.slice a1 n1 c1, .slice a2 n2 c2], .int .i64 (n : Int), .slice az nz cz, .int .i64 below] w fun e w' => e = .returned (.bool (mayN g.nodes (callsB zs below) n)) ∧ Chg [] w w' := by
  intro d
  induction d with
  | zero => intro n h1 h2; omega
  | succ d ih =>
  intro n hd hn w hg hz
  obtain ⟨x, hx⟩ : ∃ x, x = g.nodes[n] := ⟨_, rfl⟩
  obtain ⟨F, hF⟩ : ∃ F, F = mayN g.nodes (callsB zs below) := ⟨_, rfl⟩
  have hval : mayN g.nodes (callsB zs below) n = kindMay x (callsB zs below) F := by rw [mayN_eq (falls_right hr) _ hn, hx, hF]
  rw [hval]
  have hkids : ∀ k ∈ x.kids, (n : Int) < k ∧ k < g.nodes.length := fun k hk => right_kids hr hn k (by rw [hx] at hk; exact hk)
  have hkb := right_kind hr hn
  have hplus : x.k = 9 → x.kids.length = 1 := fun h => by rw [hx] at h ⊢; exact right_plus hr hn h
  have hcall : x.k = 5 → 0 ≤ x.r ∧ x.r < nz := fun h => by rw [hx] at h ⊢; rw [hnz, hzl]; exact right_call hr hn h
  rw [← hx] at hkb
  have he2 := hg.e2
  have hn2 : n < n2 := by rw [he2]; exact hn
  have hrec : ∀ (k : Nat) (hk : k < x.kids.length) (W : World), Chg [] w W → Calls Tryz.prog 88 #[.agg #[.slice a1 n1 c1, .slice a2 n2 c2], .int .i64 x.kids[k], .slice az nz cz, .int .i64 below] W fun e w' => e = .returned (.bool (F x.kids[k])) ∧ Chg [] W w' := fun k hk W hW => by
    obtain ⟨q1, q2⟩ := hkids _ (List.getElem_mem hk)
    obtain ⟨q, hq⟩ : ∃ q : Nat, x.kids[k] = (q : Int) := ⟨x.kids[k].toNat, by omega⟩
    have := ih q (by omega) (by omega) W (hg.keep hW.kp) (hz.keep hW.kp)
    rw [hq, hF]
    exact this
  obtain ⟨bn, on, ak, nk, ck, rfl, hxa⟩ := hg.nodes n hn
  rw [← hx] at hxa
  obtain ⟨p0, p1, p2, p3, p4, p5, p6, p7, p8, hnk, hle, hcap, hik⟩ := hxa
  have hbk := World.block_lt_of_cell? _ _ p0
  simp only at hbk
  have hrank : x.k = 5 → ∃ z b' o', az = some ⟨b', o', none⟩ ∧ w.cell? ⟨b', o' + x.r.toNat, none⟩ = some (.int .i64 z) ∧ callsB zs below x.r = (decide (0 < z) && decide (z < below)) := fun h => by
    obtain ⟨h1, h2⟩ := hcall h
    have hl : x.r.toNat < zs.length := by omega
    obtain ⟨b', o', e1, e2⟩ := hz _ hl
    refine ⟨_, b', o', e1, e2, ?_⟩
    unfold callsB
    rw [decide_eq_true h1, List.getElem?_eq_getElem hl]
    rfl
  have hsm : nk ≤ 9223372036854775807 := by simp only [maxLen] at hcap; omega
  have hc2 : n2 ≤ 9223372036854775807 := hg.small.2
  obtain ⟨B, hB⟩ : ∃ B, B = kindMay x (callsB zs below) F := ⟨_, rfl⟩
  rw [← hB]
  have H := Lib.hid (And.intro hrec (And.intro hik (And.intro hnk hB)))
  have HP := Lib.hid (And.intro hplus (And.intro hcall hrank))
  clear ih hd hg hz hval hkids hx hF hrec hik hnk hle hcap hB hplus hcall hrank he2 hr hnz hzl
  obtain ⟨xk, xc0, xc1, xc2, xc3, xs, xr, xl, xkids⟩ := x
  simp only at hkb p0 p1 p2 p3 p4 p5 p6 p7
  have hW0 : Chg [] w ((w.alloc (.cells #[.slice a1 n1 c1, .slice (some ⟨bn, on, none⟩) n2 c2] 25)).alloc (.cells #[.int .i64 xk, .int .u64 xc0, .int .u64 xc1, .int .u64 xc2, .int .u64 xc3, .string xs, .int .i64 xr, .int .i64 xl, .slice ak nk ck] 53)) := ((Chg.refl [] w).alloc _).alloc _
  obtain ⟨w0, ew0⟩ : ∃ w0, w0 = ((w.alloc (.cells #[.slice a1 n1 c1, .slice (some ⟨bn, on, none⟩) n2 c2] 25)).alloc (.cells #[.int .i64 xk, .int .u64 xc0, .int .u64 xc1, .int .u64 xc2, .int .u64 xc3, .string xs, .int .i64 xr, .int .i64 xl, .slice ak nk ck] 53)) := ⟨_, rfl⟩
  have hbg : w0.heap[w.heap.size]? = some (.cells #[.slice a1 n1 c1, .slice (some ⟨bn, on, none⟩) n2 c2] 25 (0, 0)) := by rw [ew0]; exact heap_alloc_lt (heap_alloc_same _ _) _
  have hbx : w0.heap[w.heap.size + 1]? = some (.cells #[.int .i64 xk, .int .u64 xc0, .int .u64 xc1, .int .u64 xc2, .int .u64 xc3, .string xs, .int .i64 xr, .int .i64 xl, .slice ak nk ck] 53 (0, 0)) := by
    rw [ew0]
    have := heap_alloc_same (w.alloc (.cells #[.slice a1 n1 c1, .slice (some ⟨bn, on, none⟩) n2 c2] 25)) (.cells #[.int .i64 xk, .int .u64 xc0, .int .u64 xc1, .int .u64 xc2, .int .u64 xc3, .string xs, .int .i64 xr, .int .i64 xl, .slice ak nk ck] 53)
    rwa [World.size_alloc] at this
  rw [← ew0] at hW0
  have HE := Lib.hid ew0
  have HB := Lib.hid (And.intro hW0 (And.intro hbg hbx))
  clear ew0 hW0 hbg hbx
  go_enter Tryz.func88, Tryz.ntmps88
  by_cases he : xk = 1 ∨ xk = 8 ∨ xk = 10 ∨ xk = 11 ∨ xk = 12
  · have hBt : B = true := by rw [H.out.2.2.2]; simp [kindMay, easyK, he]
    subst hBt
    rcases he with rfl | rfl | rfl | rfl | rfl
    all_goals go_wp2_with fail
    all_goals go_ret
    all_goals exact ⟨rfl, by have := HB.out.1; rw [HE.out] at this; exact this⟩
  by_cases h6 : xk = 6
  · subst h6
    have hBt : B = xkids.all F := by rw [H.out.2.2.2]; simp [kindMay, easyK]
    have HBt := Lib.hid hBt
    clear hBt
    go_wp2_with fail
    rw [← HE.out]
    go_loopg [10] nk (fun dd iv wr => ∃ i : Nat, dd = nk - i ∧ i ≤ nk ∧ iv = .int .i64 i ∧ Hid (Chg [] w0 wr ∧ ∀ j (h : j < xkids.length), j < i → F xkids[j] = true))
    case atStart => exact ⟨0, rfl, Nat.zero_le _, rfl, Lib.hid ⟨Chg.refl _ _, fun j _ h => by omega⟩⟩
    case round =>
      obtain ⟨i, rfl, hi, rfl, hin⟩ := hrel
      obtain ⟨wq, rfl⟩ : ∃ wq, wq = wr := ⟨_, rfl⟩
      obtain ⟨x0, x1⟩ := cells2 (hin.out.1.heap HB.out.2.1 (by simp))
      obtain ⟨y0, y1, y2, y3, y4, y5, y6, y7, y8⟩ := cells9 (hin.out.1.heap HB.out.2.2 (by simp))
      by_cases hil : i < nk
      · have hik : i < xkids.length := by rw [← H.out.2.2.1]; exact hil
        obtain ⟨bk, ok, rfl, hkc⟩ := (H.out.2.1.keep (HB.out.1.tr hin.out.1).kp) i hik
        have cA := calls_rg (w := wq) (fun w1 h1 => H.out.1 i hik w1 ((HB.out.1.tr hin.out.1).tr h1))
        try simp only at cA hkc
        obtain ⟨kv, hkv⟩ : ∃ kv, kv = xkids[i] := ⟨_, rfl⟩
        obtain ⟨fv, hfv⟩ : ∃ fv, fv = F kv := ⟨_, rfl⟩
        rw [← hkv] at hkc cA
        rw [← hfv] at cA
        have HK := Lib.hid (And.intro hkv hfv)
        have kx0 := cell_rg x0
        have kx1 := cell_rg x1
        have ky8 := cell_rg y8
        have kk := cell_rg hkc
        have hi1 : (i : Int) < nk := by omega
        clear hkv hfv x0 x1 y0 y1 y2 y3 y4 y5 y6 y7 hkc
        cases fv with
        | true =>
          go_wp2_with fail
          refine wp_region_quiet_below (by kernel_rfl) (by kernel_rfl) ?_
          repeat (go_big_quiet_step (with_reducible exact cA _ _))
          refine wpQuiet_nil ?_
          intro w7 hw7
          have HW := Lib.hid (hin.out.1.tr (chg_of_rg hw7))
          clear hw7 cA kx0 kx1 ky8 kk y8
          go_wp2_with fail
          go_roundg (nk - (i + 1))
          case measure => omega
          case rel =>
            refine ⟨i + 1, rfl, by omega, by go_num, Lib.hid ⟨HW.out, fun j h hj => ?_⟩⟩
            by_cases e : j = i
            · subst e; rw [← HK.out.1, ← HK.out.2]
            · exact hin.out.2 j h (by omega)
        | false =>
          go_wp2_with fail
          refine wp_region_quiet_below (by kernel_rfl) (by kernel_rfl) ?_
          repeat (go_big_quiet_step (with_reducible exact cA _ _))
          refine wpQuiet_nil ?_
          intro w7 hw7
          have HW := Lib.hid (hin.out.1.tr (chg_of_rg hw7))
          clear hw7 cA kx0 kx1 ky8 kk y8
          go_wp2_with fail
          go_ret
          refine ⟨ret_bool ?_, HB.out.1.tr HW.out⟩
          rw [HBt.out]
          symm
          rw [List.all_eq_false]
          exact ⟨_, List.getElem_mem hik, by rw [← HK.out.1, ← HK.out.2]; simp⟩
      · obtain rfl : i = nk := by omega
        clear x0 x1 y0 y1 y2 y3 y4 y5 y6 y7
        go_wp2_with fail
        go_ret
        refine ⟨ret_bool ?_, HB.out.1.tr hin.out.1⟩
        rw [HBt.out]
        symm
        rw [List.all_eq_true]
        intro k hk
        obtain ⟨j, hj, rfl⟩ := List.getElem_of_mem hk
        exact hin.out.2 j hj (by rw [H.out.2.2.1]; exact hj)
  by_cases h7 : xk = 7
  · subst h7
    have hBt : B = xkids.any F := by rw [H.out.2.2.2]; simp [kindMay, easyK]
    have HBt := Lib.hid hBt
    clear hBt
    go_wp2_with fail
    rw [← HE.out]
    go_loopg [11] nk (fun dd iv wr => ∃ i : Nat, dd = nk - i ∧ i ≤ nk ∧ iv = .int .i64 i ∧ Hid (Chg [] w0 wr ∧ ∀ j (h : j < xkids.length), j < i → F xkids[j] = false))
    case atStart => exact ⟨0, rfl, Nat.zero_le _, rfl, Lib.hid ⟨Chg.refl _ _, fun j _ h => by omega⟩⟩
    case round =>
      obtain ⟨i, rfl, hi, rfl, hin⟩ := hrel
      obtain ⟨wq, rfl⟩ : ∃ wq, wq = wr := ⟨_, rfl⟩
      obtain ⟨x0, x1⟩ := cells2 (hin.out.1.heap HB.out.2.1 (by simp))
      obtain ⟨y0, y1, y2, y3, y4, y5, y6, y7, y8⟩ := cells9 (hin.out.1.heap HB.out.2.2 (by simp))
      by_cases hil : i < nk
      · have hik : i < xkids.length := by rw [← H.out.2.2.1]; exact hil
        obtain ⟨bk, ok, rfl, hkc⟩ := (H.out.2.1.keep (HB.out.1.tr hin.out.1).kp) i hik
        have cA := calls_rg (w := wq) (fun w1 h1 => H.out.1 i hik w1 ((HB.out.1.tr hin.out.1).tr h1))
        try simp only at cA hkc
        obtain ⟨kv, hkv⟩ : ∃ kv, kv = xkids[i] := ⟨_, rfl⟩
        obtain ⟨fv, hfv⟩ : ∃ fv, fv = F kv := ⟨_, rfl⟩
        rw [← hkv] at hkc cA
        rw [← hfv] at cA
        have HK := Lib.hid (And.intro hkv hfv)
        have kx0 := cell_rg x0
        have kx1 := cell_rg x1
        have ky8 := cell_rg y8
        have kk := cell_rg hkc
        have hi1 : (i : Int) < nk := by omega
        clear hkv hfv x0 x1 y0 y1 y2 y3 y4 y5 y6 y7 hkc
        cases fv with
        | false =>
          go_wp2_with fail
          refine wp_region_quiet_below (by kernel_rfl) (by kernel_rfl) ?_
          repeat (go_big_quiet_step (with_reducible exact cA _ _))
          refine wpQuiet_nil ?_
          intro w7 hw7
          have HW := Lib.hid (hin.out.1.tr (chg_of_rg hw7))
          clear hw7 cA kx0 kx1 ky8 kk y8
          go_wp2_with fail
          go_roundg (nk - (i + 1))
          case measure => omega
          case rel =>
            refine ⟨i + 1, rfl, by omega, by go_num, Lib.hid ⟨HW.out, fun j h hj => ?_⟩⟩
            by_cases e : j = i
            · subst e; rw [← HK.out.1, ← HK.out.2]
            · exact hin.out.2 j h (by omega)
        | true =>
          go_wp2_with fail
          refine wp_region_quiet_below (by kernel_rfl) (by kernel_rfl) ?_
          repeat (go_big_quiet_step (with_reducible exact cA _ _))
          refine wpQuiet_nil ?_
          intro w7 hw7
          have HW := Lib.hid (hin.out.1.tr (chg_of_rg hw7))
          clear hw7 cA kx0 kx1 ky8 kk y8
          go_wp2_with fail
          go_ret
          refine ⟨ret_bool ?_, HB.out.1.tr HW.out⟩
          rw [HBt.out]
          symm
          rw [List.any_eq_true]
          exact ⟨_, List.getElem_mem hik, by rw [← HK.out.1, ← HK.out.2]⟩
      · obtain rfl : i = nk := by omega
        clear x0 x1 y0 y1 y2 y3 y4 y5 y6 y7
        go_wp2_with fail
        go_ret
        refine ⟨ret_bool ?_, HB.out.1.tr hin.out.1⟩
        rw [HBt.out]
        symm
        rw [List.any_eq_false]
        intro k hk
        obtain ⟨j, hj, rfl⟩ := List.getElem_of_mem hk
        rw [hin.out.2 j hj (by rw [H.out.2.2.1]; exact hj)]
        simp
  by_cases h9 : xk = 9
  · subst h9
    have hl := HP.out.1 rfl
    simp only at hl
    have h0l : 0 < xkids.length := by omega
    have hnk1 : 0 < nk := by have := H.out.2.2.1; simp only at this; omega
    obtain ⟨bk, ok, rfl, hkc⟩ := (H.out.2.1.keep HB.out.1.kp) 0 h0l
    have cA := calls_rg (w := w0) (fun w1 h1 => H.out.1 0 h0l w1 (HB.out.1.tr h1))
    have hBt : B = F xkids[0] := by
      rw [H.out.2.2.2]
      obtain ⟨kv, hkv⟩ := List.length_eq_one_iff.1 hl
      simp [kindMay, easyK, hkv]
    try simp only at cA hkc
    obtain ⟨kv, hkv⟩ : ∃ kv, kv = xkids[0] := ⟨_, rfl⟩
    rw [← hkv] at hkc cA hBt
    rw [← hBt] at cA
    rw [Nat.add_zero] at hkc
    have HKV := Lib.hid hkv
    clear hkv
    obtain ⟨x0, x1⟩ := cells2 HB.out.2.1
    obtain ⟨y0, y1, y2, y3, y4, y5, y6, y7, y8⟩ := cells9 HB.out.2.2
    have kx0 := cell_rg x0
    have kx1 := cell_rg x1
    have ky8 := cell_rg y8
    have kk := cell_rg hkc
    clear x0 x1 y0 y1 y2 y3 y4 y5 y6 y7 y8 hkc hBt hl
    go_wp2_with fail
    rw [← HE.out]
    refine wp_region_quiet_below (by kernel_rfl) (by kernel_rfl) ?_
    repeat (go_big_quiet_step (with_reducible exact cA _ _))
    refine wpQuiet_nil ?_
    intro w7 hw7
    have HW := Lib.hid (HB.out.1.tr (chg_of_rg hw7))
    clear hw7 cA kx0 kx1 ky8 kk
    go_wp2_with fail
    go_ret
    exact ⟨rfl, HW.out⟩
  by_cases h5 : xk = 5
  · subst h5
    obtain ⟨h1, h2⟩ := HP.out.2.1 rfl
    obtain ⟨z, bz, oz, rfl, hzc, hcv⟩ := HP.out.2.2 rfl
    simp only at h1 h2 hzc hcv
    obtain ⟨q, rfl⟩ : ∃ q : Nat, xr = (q : Int) := ⟨xr.toNat, by omega⟩
    simp only [Int.toNat_natCast] at hzc
    have hBt : B = (decide (0 < z) && decide (z < below)) := by rw [H.out.2.2.2]; simp [kindMay, easyK, hcv]
    subst hBt
    have hzc2 := HB.out.1.cell hzc (by simp)
    rw [HE.out] at hzc2
    have hlz := World.block_lt_of_cell? _ _ hzc
    simp only at hlz
    have hq1 : q < nz := by omega
    have HW := Lib.hid HB.out.1
    clear hzc2 hcv
    by_cases hz1 : 0 < z
    · rw [decide_eq_true hz1, Bool.true_and]
      go_wp2_with fail
      go_ret
      exact ⟨rfl, by have := HB.out.1; rw [HE.out] at this; exact this⟩
    · rw [decide_eq_false hz1, Bool.false_and]
      go_wp2_with fail
      go_ret
      exact ⟨rfl, by have := HB.out.1; rw [HE.out] at this; exact this⟩
  have hBt : B = false := by
    rw [H.out.2.2.2]
    simp only [kindMay, easyK, if_neg (show ¬ decide (xk = 1 ∨ xk = 8 ∨ xk = 10 ∨ xk = 11 ∨ xk = 12) = true by simpa using he)]
    rw [if_neg (by simp [h6, h9]), if_neg h7, if_neg h5]
  subst hBt
  rcases (show xk = 2 ∨ xk = 3 ∨ xk = 4 by omega) with rfl | rfl | rfl
  all_goals go_wp2_with fail
  all_goals go_ret
  all_goals exact ⟨rfl, by have := HB.out.1; rw [HE.out] at this; exact this⟩
end Go.Proofs.YtibgfgfmljhimaaGreat

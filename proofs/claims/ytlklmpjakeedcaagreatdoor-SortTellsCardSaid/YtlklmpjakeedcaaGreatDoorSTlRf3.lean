/-
  The document's answer of layer 11: whether a node may match nothing, by rules of some ranks.
  Conditions: the grammar is right; a rank is told of each rule.
-/
import Derived.Test.YtlklmpjakeedcaaGreatDoorSTlKB1
import Derived.Test.YtlklmpjakeedcaaGreatDoorSTlLf0
import Derived.Test.YtlklmpjakeedcaaGreatDoorSTlGCopy
import Derived.Test.YtlklmpjakeedcaaGreatDoorSTlAp0
import Derived.Test.YtlklmpjakeedcaaGreatDoorSTlGRefR
import Derived.Test.YtlklmpjakeedcaaGreatDoorSTlGAny2
set_option linter.unusedVariables false
set_option linter.unusedSimpArgs false
set_option linter.unnecessarySimpa false
namespace Go.Proofs.YtlklmpjakeedcaaGreatDoor
open Go.RowKit Go.MapKept Go.Shelf

/-- By ranks from 1 on and below a number. -/
def callsB (zs : List Int) (b : Int) (q : Int) : Bool := decide (0 ≤ q) && (match zs[q.toNat]? with | some z => decide (0 < z) && decide (z < b) | none => false)
theorem right_plus {g : Gr} (h : rightB g = true) {n : Nat} (hn : n < g.nodes.length) (hk : g.nodes[n].k = 9) : g.nodes[n].kids.length = 1 := by
  have h1 := right_node h hn
  unfold nodeB nodeN at h1
  repeat' split at h1
  all_goals first | omega | (rw [Bool.and_eq_true, decide_eq_true_eq] at h1; exact h1.2) | cases h1
theorem right_call {g : Gr} (h : rightB g = true) {n : Nat} (hn : n < g.nodes.length) (hk : g.nodes[n].k = 5) : 0 ≤ g.nodes[n].r ∧ g.nodes[n].r < g.rules.length := by
  have h1 := right_node h hn
  unfold nodeB nodeN at h1
  repeat' split at h1
  all_goals first | omega | (simp only [Bool.and_eq_true, decide_eq_true_eq] at h1; omega) | cases h1

set_option maxRecDepth 100000 in
set_option maxHeartbeats 16000000 in
theorem refMay_any (a1 : Option Addr) (n1 c1 : Nat) (a2 : Option Addr) (n2 c2 : Nat) (g : Gr) (hr : rightB g = true) (az : Option Addr) (nz cz : Nat) (zs : List Int) (hzl : zs.length = g.rules.length) (hnz : nz = zs.length) (below : Int) :
    ∀ (d n : Nat), g.nodes.length - n ≤ d → n < g.nodes.length → ∀ w, GramAt w a1 n1 c1 a2 n2 c2 g → Ints w az zs →
    Calls Tryz.prog 164 #[.agg #[.slice a1 n1 c1, .slice a2 n2 c2], .int .i64 (n : Int), .slice az nz cz, .int .i64 below] w fun e w' => e = .returned (.bool (mayN g.nodes (callsB zs below) n)) ∧ Chg [] w w' := by
  intro d
  induction d with
  | zero => intro n h1 h2; omega
  | succ d ih =>
  intro n hd hn w hg hz
  obtain ⟨x, hx⟩ : ∃ x, x = g.nodes[n] := ⟨_, rfl⟩
  obtain ⟨F, hF⟩ : ∃ F, F = mayN g.nodes (callsB zs below) := ⟨_, rfl⟩
  have hval : mayN g.nodes (callsB zs below) n = kindMay x (callsB zs below) F := by rw [mayN_eq (falls_right hr) _ hn, hx, hF]
  rw [hval]
  have hkids : ∀ k ∈ x.kids, (n : Int) < k ∧ k < g.nodes.length := fun k hk => right_kids hr hn k (by rw [hx] at hk; exact hk)
  have hkb := right_kind hr hn
  have hplus : x.k = 9 → x.kids.length = 1 := fun h => by rw [hx] at h ⊢; exact right_plus hr hn h
  have hcall : x.k = 5 → 0 ≤ x.r ∧ x.r < nz := fun h => by rw [hx] at h ⊢; rw [hnz, hzl]; exact right_call hr hn h
  rw [← hx] at hkb
  have he2 := hg.e2
  have hn2 : n < n2 := by rw [he2]; exact hn
  have hrec : ∀ (k : Nat) (hk : k < x.kids.length) (W : World), Chg [] w W → Calls Tryz.prog 164 #[.agg #[.slice a1 n1 c1, .slice a2 n2 c2], .int .i64 x.kids[k], .slice az nz cz, .int .i64 below] W fun e w' => e = .returned (.bool (F x.kids[k])) ∧ Chg [] W w' := fun k hk W hW => by
    obtain ⟨q1, q2⟩ := hkids _ (List.getElem_mem hk)
    obtain ⟨q, hq⟩ : ∃ q : Nat, x.kids[k] = (q : Int) := ⟨x.kids[k].toNat, by omega⟩
    have := ih q (by omega) (by omega) W (hg.keep hW.kp) (hz.keep hW.kp)
    rw [hq, hF]
    exact this
  obtain ⟨bn, on, ak, nk, ck, rfl, hxa⟩ := hg.nodes n hn
  rw [← hx] at hxa
  obtain ⟨p0, p1, p2, p3, p4, p5, p6, p7, p8, hnk, hle, hcap, hik⟩ := hxa
  have hbk := World.block_lt_of_cell? _ _ p0
  simp only at hbk
  have hrank : x.k = 5 → ∃ z b' o', az = some ⟨b', o', none⟩ ∧ w.cell? ⟨b', o' + x.r.toNat, none⟩ = some (.int .i64 z) ∧ callsB zs below x.r = (decide (0 < z) && decide (z < below)) := fun h => by
    obtain ⟨h1, h2⟩ := hcall h
    have hl : x.r.toNat < zs.length := by omega
    obtain ⟨b', o', e1, e2⟩ := hz _ hl
    refine ⟨_, b', o', e1, e2, ?_⟩
    unfold callsB
    rw [decide_eq_true h1, List.getElem?_eq_getElem hl]
    rfl
  have hsm : nk ≤ 9223372036854775807 := by simp only [maxLen] at hcap; omega
  have hc2 : n2 ≤ 9223372036854775807 := hg.small.2
  obtain ⟨B, hB⟩ : ∃ B, B = kindMay x (callsB zs below) F := ⟨_, rfl⟩
  rw [← hB]
  have H := Lib.hid (And.intro hrec (And.intro hik (And.intro hnk hB)))
  have HP := Lib.hid (And.intro hplus (And.intro hcall hrank))
  clear ih hd hg hz hval hkids hx hF hrec hik hnk hle hcap hB hplus hcall hrank he2 hr hnz hzl
  obtain ⟨xk, xc0, xc1, xc2, xc3, xs, xr, xl, xkids⟩ := x
  simp only at hkb p0 p1 p2 p3 p4 p5 p6 p7
  have hW0 : Chg [] w ((w.alloc (.cells #[.slice a1 n1 c1, .slice (some ⟨bn, on, none⟩) n2 c2] 31)).alloc (.cells #[.int .i64 xk, .int .u64 xc0, .int .u64 xc1, .int .u64 xc2, .int .u64 xc3, .string xs, .int .i64 xr, .int .i64 xl, .slice ak nk ck] 65)) := ((Chg.refl [] w).alloc _).alloc _
  obtain ⟨w0, ew0⟩ : ∃ w0, w0 = ((w.alloc (.cells #[.slice a1 n1 c1, .slice (some ⟨bn, on, none⟩) n2 c2] 31)).alloc (.cells #[.int .i64 xk, .int .u64 xc0, .int .u64 xc1, .int .u64 xc2, .int .u64 xc3, .string xs, .int .i64 xr, .int .i64 xl, .slice ak nk ck] 65)) := ⟨_, rfl⟩
  have hbg : w0.heap[w.heap.size]? = some (.cells #[.slice a1 n1 c1, .slice (some ⟨bn, on, none⟩) n2 c2] 31 (0, 0)) := by rw [ew0]; exact heap_alloc_lt (heap_alloc_same _ _) _
  have hbx : w0.heap[w.heap.size + 1]? = some (.cells #[.int .i64 xk, .int .u64 xc0, .int .u64 xc1, .int .u64 xc2, .int .u64 xc3, .string xs, .int .i64 xr, .int .i64 xl, .slice ak nk ck] 65 (0, 0)) := by
    rw [ew0]
    have := heap_alloc_same (w.alloc (.cells #[.slice a1 n1 c1, .slice (some ⟨bn, on, none⟩) n2 c2] 31)) (.cells #[.int .i64 xk, .int .u64 xc0, .int .u64 xc1, .int .u64 xc2, .int .u64 xc3, .string xs, .int .i64 xr, .int .i64 xl, .slice ak nk ck] 65)
    rwa [World.size_alloc] at this
  rw [← ew0] at hW0
  have HE := Lib.hid ew0
  have HB := Lib.hid (And.intro hW0 (And.intro hbg hbx))
  clear ew0 hW0 hbg hbx
  go_enter Tryz.func164, Tryz.ntmps164
  by_cases he : xk = 1 ∨ xk = 8 ∨ xk = 10 ∨ xk = 11 ∨ xk = 12
  · have hBt : B = true := by rw [H.out.2.2.2]; simp [kindMay, easyK, he]
    subst hBt
    rcases he with rfl | rfl | rfl | rfl | rfl
    all_goals go_wp2_with fail
    all_goals go_ret
    all_goals exact ⟨rfl, by have := HB.out.1; rw [HE.out] at this; exact this⟩
  by_cases h6 : xk = 6
  · subst h6
    have hBt : B = xkids.all F := by rw [H.out.2.2.2]; simp [kindMay, easyK]
    have HBt := Lib.hid hBt
    clear hBt
    go_wp2_with fail
    rw [← HE.out]
    go_loopg [10] nk (fun dd iv wr => ∃ i : Nat, dd = nk - i ∧ i ≤ nk ∧ iv = .int .i64 i ∧ Hid (Chg [] w0 wr ∧ ∀ j (h : j < xkids.length), j < i → F xkids[j] = true))
    case atStart => exact ⟨0, rfl, Nat.zero_le _, rfl, Lib.hid ⟨Chg.refl _ _, fun j _ h => by omega⟩⟩
    case round =>
      obtain ⟨i, rfl, hi, rfl, hin⟩ := hrel
      obtain ⟨wq, rfl⟩ : ∃ wq, wq = wr := ⟨_, rfl⟩
      obtain ⟨x0, x1⟩ := cells2 (hin.out.1.heap HB.out.2.1 (by simp))
      obtain ⟨y0, y1, y2, y3, y4, y5, y6, y7, y8⟩ := cells9 (hin.out.1.heap HB.out.2.2 (by simp))
      by_cases hil : i < nk
      · have hik : i < xkids.length := by rw [← H.out.2.2.1]; exact hil
        obtain ⟨bk, ok, rfl, hkc⟩ := (H.out.2.1.keep (HB.out.1.tr hin.out.1).kp) i hik
        have cA := calls_rg (w := wq) (fun w1 h1 => H.out.1 i hik w1 ((HB.out.1.tr hin.out.1).tr h1))
        try simp only at cA hkc
        obtain ⟨kv, hkv⟩ : ∃ kv, kv = xkids[i] := ⟨_, rfl⟩
        obtain ⟨fv, hfv⟩ : ∃ fv, fv = F kv := ⟨_, rfl⟩
        rw [← hkv] at hkc cA
        rw [← hfv] at cA
        have HK := Lib.hid (And.intro hkv hfv)
        have kx0 := cell_rg x0
        have kx1 := cell_rg x1
        have ky8 := cell_rg y8
        have kk := cell_rg hkc
        have hi1 : (i : Int) < nk := by omega
        clear hkv hfv x0 x1 y0 y1 y2 y3 y4 y5 y6 y7 hkc
        cases fv with
        | true =>
          go_wp2_with fail
          refine wp_region_quiet_below (by kernel_rfl) (by kernel_rfl) ?_
          repeat (go_big_quiet_step (with_reducible exact cA _ _))
          refine wpQuiet_nil ?_
          intro w7 hw7
          have HW := Lib.hid (hin.out.1.tr (chg_of_rg hw7))
          clear hw7 cA kx0 kx1 ky8 kk y8
          go_wp2_with fail
          go_roundg (nk - (i + 1))
          case measure => omega
          case rel =>
            refine ⟨i + 1, rfl, by omega, by go_num, Lib.hid ⟨HW.out, fun j h hj => ?_⟩⟩
            by_cases e : j = i
            · subst e; rw [← HK.out.1, ← HK.out.2]
            · exact hin.out.2 j h (by omega)
        | false =>
          go_wp2_with fail
          refine wp_region_quiet_below (by kernel_rfl) (by kernel_rfl) ?_
          repeat (go_big_quiet_step (with_reducible exact cA _ _))
          refine wpQuiet_nil ?_
          intro w7 hw7
          have HW := Lib.hid (hin.out.1.tr (chg_of_rg hw7))
          clear hw7 cA kx0 kx1 ky8 kk y8
          go_wp2_with fail
          go_ret
          refine ⟨ret_bool ?_, HB.out.1.tr HW.out⟩
          rw [HBt.out]
          symm
          rw [List.all_eq_false]
          exact ⟨_, List.getElem_mem hik, by rw [← HK.out.1, ← HK.out.2]; simp⟩
      · obtain rfl : i = nk := by omega
        clear x0 x1 y0 y1 y2 y3 y4 y5 y6 y7
        go_wp2_with fail
        go_ret
        refine ⟨ret_bool ?_, HB.out.1.tr hin.out.1⟩
        rw [HBt.out]
        symm
        rw [List.all_eq_true]
        intro k hk
        obtain ⟨j, hj, rfl⟩ := List.getElem_of_mem hk
        exact hin.out.2 j hj (by rw [H.out.2.2.1]; exact hj)
  by_cases h7 : xk = 7
  · subst h7
    have hBt : B = xkids.any F := by rw [H.out.2.2.2]; simp [kindMay, easyK]
    have HBt := Lib.hid hBt
    clear hBt
    go_wp2_with fail
    rw [← HE.out]
    go_loopg [11] nk (fun dd iv wr => ∃ i : Nat, dd = nk - i ∧ i ≤ nk ∧ iv = .int .i64 i ∧ Hid (Chg [] w0 wr ∧ ∀ j (h : j < xkids.length), j < i → F xkids[j] = false))
    case atStart => exact ⟨0, rfl, Nat.zero_le _, rfl, Lib.hid ⟨Chg.refl _ _, fun j _ h => by omega⟩⟩
    case round =>
      obtain ⟨i, rfl, hi, rfl, hin⟩ := hrel
      obtain ⟨wq, rfl⟩ : ∃ wq, wq = wr := ⟨_, rfl⟩
      obtain ⟨x0, x1⟩ := cells2 (hin.out.1.heap HB.out.2.1 (by simp))
      obtain ⟨y0, y1, y2, y3, y4, y5, y6, y7, y8⟩ := cells9 (hin.out.1.heap HB.out.2.2 (by simp))
      by_cases hil : i < nk
      · have hik : i < xkids.length := by rw [← H.out.2.2.1]; exact hil
        obtain ⟨bk, ok, rfl, hkc⟩ := (H.out.2.1.keep (HB.out.1.tr hin.out.1).kp) i hik
        have cA := calls_rg (w := wq) (fun w1 h1 => H.out.1 i hik w1 ((HB.out.1.tr hin.out.1).tr h1))
        try simp only at cA hkc
        obtain ⟨kv, hkv⟩ : ∃ kv, kv = xkids[i] := ⟨_, rfl⟩
        obtain ⟨fv, hfv⟩ : ∃ fv, fv = F kv := ⟨_, rfl⟩
        rw [← hkv] at hkc cA
        rw [← hfv] at cA
        have HK := Lib.hid (And.intro hkv hfv)
        have kx0 := cell_rg x0
        have kx1 := cell_rg x1
        have ky8 := cell_rg y8
        have kk := cell_rg hkc
        have hi1 : (i : Int) < nk := by omega
        clear hkv hfv x0 x1 y0 y1 y2 y3 y4 y5 y6 y7 hkc
        cases fv with
        | false =>
          go_wp2_with fail
          refine wp_region_quiet_below (by kernel_rfl) (by kernel_rfl) ?_
          repeat (go_big_quiet_step (with_reducible exact cA _ _))
          refine wpQuiet_nil ?_
          intro w7 hw7
          have HW := Lib.hid (hin.out.1.tr (chg_of_rg hw7))
          clear hw7 cA kx0 kx1 ky8 kk y8
          go_wp2_with fail
          go_roundg (nk - (i + 1))
          case measure => omega
          case rel =>
            refine ⟨i + 1, rfl, by omega, by go_num, Lib.hid ⟨HW.out, fun j h hj => ?_⟩⟩
            by_cases e : j = i
            · subst e; rw [← HK.out.1, ← HK.out.2]
            · exact hin.out.2 j h (by omega)
        | true =>
          go_wp2_with fail
          refine wp_region_quiet_below (by kernel_rfl) (by kernel_rfl) ?_
          repeat (go_big_quiet_step (with_reducible exact cA _ _))
          refine wpQuiet_nil ?_
          intro w7 hw7
          have HW := Lib.hid (hin.out.1.tr (chg_of_rg hw7))
          clear hw7 cA kx0 kx1 ky8 kk y8
          go_wp2_with fail
          go_ret
          refine ⟨ret_bool ?_, HB.out.1.tr HW.out⟩
          rw [HBt.out]
          symm
          rw [List.any_eq_true]
          exact ⟨_, List.getElem_mem hik, by rw [← HK.out.1, ← HK.out.2]⟩
      · obtain rfl : i = nk := by omega
        clear x0 x1 y0 y1 y2 y3 y4 y5 y6 y7
        go_wp2_with fail
        go_ret
        refine ⟨ret_bool ?_, HB.out.1.tr hin.out.1⟩
        rw [HBt.out]
        symm
        rw [List.any_eq_false]
        intro k hk
        obtain ⟨j, hj, rfl⟩ := List.getElem_of_mem hk
        rw [hin.out.2 j hj (by rw [H.out.2.2.1]; exact hj)]
        simp
  by_cases h9 : xk = 9
  · subst h9
    have hl := HP.out.1 rfl
    simp only at hl
    have h0l : 0 < xkids.length := by omega
    have hnk1 : 0 < nk := by have := H.out.2.2.1; simp only at this; omega
    obtain ⟨bk, ok, rfl, hkc⟩ := (H.out.2.1.keep HB.out.1.kp) 0 h0l
    have cA := calls_rg (w := w0) (fun w1 h1 => H.out.1 0 h0l w1 (HB.out.1.tr h1))
    have hBt : B = F xkids[0] := by
      rw [H.out.2.2.2]
      obtain ⟨kv, hkv⟩ := List.length_eq_one_iff.1 hl
      simp [kindMay, easyK, hkv]
    try simp only at cA hkc
    obtain ⟨kv, hkv⟩ : ∃ kv, kv = xkids[0] := ⟨_, rfl⟩
    rw [← hkv] at hkc cA hBt
    rw [← hBt] at cA
    rw [Nat.add_zero] at hkc
    have HKV := Lib.hid hkv
    clear hkv
    obtain ⟨x0, x1⟩ := cells2 HB.out.2.1
    obtain ⟨y0, y1, y2, y3, y4, y5, y6, y7, y8⟩ := cells9 HB.out.2.2
    have kx0 := cell_rg x0
    have kx1 := cell_rg x1
    have ky8 := cell_rg y8
    have kk := cell_rg hkc
    clear x0 x1 y0 y1 y2 y3 y4 y5 y6 y7 y8 hkc hBt hl
    go_wp2_with fail
    rw [← HE.out]
    refine wp_region_quiet_below (by kernel_rfl) (by kernel_rfl) ?_
    repeat (go_big_quiet_step (with_reducible exact cA _ _))
    refine wpQuiet_nil ?_
    intro w7 hw7
    have HW := Lib.hid (HB.out.1.tr (chg_of_rg hw7))
    clear hw7 cA kx0 kx1 ky8 kk
    go_wp2_with fail
    go_ret
    exact ⟨rfl, HW.out⟩
  by_cases h5 : xk = 5
  · subst h5
    obtain ⟨h1, h2⟩ := HP.out.2.1 rfl
    obtain ⟨z, bz, oz, rfl, hzc, hcv⟩ := HP.out.2.2 rfl
    simp only at h1 h2 hzc hcv
    obtain ⟨q, rfl⟩ : ∃ q : Nat, xr = (q : Int) := ⟨xr.toNat, by omega⟩
    simp only [Int.toNat_natCast] at hzc
    have hBt : B = (decide (0 < z) && decide (z < below)) := by rw [H.out.2.2.2]; simp [kindMay, easyK, hcv]
    subst hBt
    have hzc2 := HB.out.1.cell hzc (by simp)
    rw [HE.out] at hzc2
    have hlz := World.block_lt_of_cell? _ _ hzc
    simp only at hlz
    have hq1 : q < nz := by omega
    have HW := Lib.hid HB.out.1
    clear hzc2 hcv
    by_cases hz1 : 0 < z
    · rw [decide_eq_true hz1, Bool.true_and]
      go_wp2_with fail
      go_ret
      exact ⟨rfl, by have := HB.out.1; rw [HE.out] at this; exact this⟩
    · rw [decide_eq_false hz1, Bool.false_and]
      go_wp2_with fail
      go_ret
      exact ⟨rfl, by have := HB.out.1; rw [HE.out] at this; exact this⟩
  have hBt : B = false := by
    rw [H.out.2.2.2]
    simp only [kindMay, easyK, if_neg (show ¬ decide (xk = 1 ∨ xk = 8 ∨ xk = 10 ∨ xk = 11 ∨ xk = 12) = true by simpa using he)]
    rw [if_neg (by simp [h6, h9]), if_neg h7, if_neg h5]
  subst hBt
  rcases (show xk = 2 ∨ xk = 3 ∨ xk = 4 by omega) with rfl | rfl | rfl
  all_goals go_wp2_with fail
  all_goals go_ret
  all_goals exact ⟨rfl, by have := HB.out.1; rw [HE.out] at this; exact this⟩
end Go.Proofs.YtlklmpjakeedcaaGreatDoor
set_option linter.unusedVariables false
set_option linter.unusedSimpArgs false
set_option linter.unnecessarySimpa false
namespace Go.Proofs.YtlklmpjakeedcaaGreatDoor
open Go.RowKit Go.MapKept Go.Shelf

/-- Ranks in the round behind the j-th, the first i rules gone through. -/
def rkAt (g : Gr) (j i : Nat) : List Int := (List.range g.rules.length).map fun (q : Nat) => ((if q < i then rk g (j + 1) q else rk g j q : Nat) : Int)
theorem rkAt_len (g : Gr) (j i : Nat) : (rkAt g j i).length = g.rules.length := by simp [rkAt]
theorem rkAt_get (g : Gr) (j i : Nat) {q : Nat} (hq : q < g.rules.length) : (rkAt g j i)[q]? = some (((if q < i then rk g (j + 1) q else rk g j q : Nat) : Int)) := by simp [rkAt, hq]
theorem rkAt_calls (g : Gr) (j i : Nat) : callsB (rkAt g j i) ((j : Int) + 1) = callsR g j := by
  funext q
  unfold callsB callsR
  by_cases hq : 0 ≤ q
  · rw [decide_eq_true hq, Bool.true_and, Bool.true_and]
    by_cases hl : q.toNat < g.rules.length
    · rw [rkAt_get g j i hl]
      simp only
      have hle := rk_le g j q.toNat
      split
      · rw [rk_step g j hl]
        split
        · rename_i h
          rw [h.1]
          simp
        · rw [Bool.eq_iff_iff]
          simp only [Bool.and_eq_true, decide_eq_true_eq]
          omega
      · rw [Bool.eq_iff_iff]
        simp only [Bool.and_eq_true, decide_eq_true_eq]
        omega
    · rw [rk_out g j (by omega)]
      have : (rkAt g j i)[q.toNat]? = none := by rw [List.getElem?_eq_none_iff, rkAt_len]; omega
      rw [this]
      rfl
  · rw [decide_eq_false hq]; rfl
theorem rkAt_next (g : Gr) (j : Nat) : rkAt g j g.rules.length = rkAt g (j + 1) 0 := by
  unfold rkAt
  refine List.map_congr_left fun q hq => ?_
  rw [if_pos (List.mem_range.1 hq), if_neg (Nat.not_lt_zero _)]
theorem rkAt_skip (g : Gr) (j i : Nat) (h : rk g (j + 1) i = rk g j i) : rkAt g j (i + 1) = rkAt g j i := by
  unfold rkAt
  refine List.map_congr_left fun q hq => ?_
  by_cases e : q = i
  · subst e; rw [if_pos (by omega), if_neg (by omega), h]
  · by_cases e2 : q < i
    · rw [if_pos (by omega), if_pos e2]
    · rw [if_neg (by omega), if_neg e2]
theorem rkAt_put (g : Gr) (j i : Nat) (hi : i < g.rules.length) (h : rk g (j + 1) i = j + 1) : rkAt g j (i + 1) = (rkAt g j i).set i ((j : Int) + 1) := by
  apply List.ext_getElem
  · rw [List.length_set, rkAt_len, rkAt_len]
  · intro q h1 h2
    rw [List.getElem_set]
    simp only [rkAt, List.getElem_map, List.getElem_range]
    by_cases e : i = q
    · subst e; rw [if_pos (by omega), if_pos rfl, h]; rfl
    · rw [if_neg e]
      by_cases e2 : q < i
      · rw [if_pos (by omega), if_pos e2]
      · rw [if_neg (by omega), if_neg e2]

set_option maxRecDepth 100000 in
set_option maxHeartbeats 16000000 in
theorem refRanks_any (w : World) (a1 : Option Addr) (n1 c1 : Nat) (a2 : Option Addr) (n2 c2 : Nat) (g : Gr) (hg : GramAt w a1 n1 c1 a2 n2 c2 g) (hr : rightB g = true) :
    Calls Tryz.prog 115 #[.agg #[.slice a1 n1 c1, .slice a2 n2 c2]] w (ClonedInts w (ranksL g g.rules.length)) := by
  have hn32 : n1 ≤ 32 := by have := (right_sizes hr).2.1; have := hg.e1; omega
  have hmk := run_zeros n1 (by omega)
  have H := Lib.hid (And.intro hg (And.intro hr hg.e1))
  clear hg hr
  go_enter Tryz.func115, Tryz.ntmps115
  go_wp2_with fail
  obtain ⟨B, hB⟩ : ∃ B, B = w.heap.size + 1 := ⟨_, rfl⟩
  have h0 : ((w.alloc (.cells #[.slice a1 n1 c1, .slice a2 n2 c2] 31)).alloc (rowOf n1 (List.replicate n1 0))).ownsRow w.heap.size 3 1 (.slice (some ⟨B, 0, none⟩) n1 n1) n1 ((rkAt g 0 0).map (Value.int .i64)) := by
    have he := H.out.2.2
    have e1 : rkAt g 0 0 = List.replicate n1 0 := by
      apply List.ext_getElem
      · rw [rkAt_len, List.length_replicate, he]
      · intro q h1 h2
        simp [rkAt, rk]
    have h2 := heap_alloc_same (w.alloc (.cells #[.slice a1 n1 c1, .slice a2 n2 c2] 31)) (rowOf n1 (List.replicate n1 0))
    rw [World.size_alloc, ← hB] at h2
    rw [e1]
    exact ⟨by simp, .inr ⟨B, n1, _, rfl, by omega, h2, Nat.le_refl _, by simp only [maxLen]; omega, by simp, by simp⟩⟩
  have hb0 : ((w.alloc (.cells #[.slice a1 n1 c1, .slice a2 n2 c2] 31)).alloc (rowOf n1 (List.replicate n1 0))).heap[w.heap.size]? = some (.cells #[.slice a1 n1 c1, .slice a2 n2 c2] 31 (0, 0)) := heap_alloc_lt (heap_alloc_same _ _) _
  have hc0 : Chg [] w ((w.alloc (.cells #[.slice a1 n1 c1, .slice a2 n2 c2] 31)).alloc (rowOf n1 (List.replicate n1 0))) := ((Chg.refl [] w).alloc _).alloc _
  obtain ⟨w0, e0⟩ : ∃ w0, w0 = ((w.alloc (.cells #[.slice a1 n1 c1, .slice a2 n2 c2] 31)).alloc (rowOf n1 (List.replicate n1 0))) := ⟨_, rfl⟩
  rw [← e0] at h0 hb0 hc0 ⊢
  rw [← hB]
  have H0 := Lib.hid (And.intro h0 (And.intro hb0 (And.intro hc0 hB)))
  clear e0 h0 hb0 hc0 hB hmk
  go_loopg [4] n1 (fun dd iv wr => ∃ j : Nat, dd = n1 - j ∧ j ≤ n1 ∧ iv = .int .i64 ((j : Int) + 1) ∧ Hid (wr.ownsRow w.heap.size 3 1 (.slice (some ⟨B, 0, none⟩) n1 n1) n1 ((rkAt g j 0).map (Value.int .i64)) ∧ wr.heap[w.heap.size]? = some (.cells #[.slice a1 n1 c1, .slice a2 n2 c2] 31 (0, 0)) ∧ Chg [] w wr))
  case atStart => exact ⟨0, rfl, Nat.zero_le _, rfl, Lib.hid ⟨H0.out.1, H0.out.2.1, H0.out.2.2.1⟩⟩
  case round =>
    obtain ⟨j, rfl, hj, rfl, hin⟩ := hrel
    obtain ⟨wq, rfl⟩ : ∃ wq, wq = wr := ⟨_, rfl⟩
    obtain ⟨x0, x1⟩ := cells2 hin.out.2.1
    by_cases hjl : j < n1
    · go_wp2_with fail
      rw [show decide ((j : Int) + 1 ≤ n1) = true from decide_eq_true (by omega)]
      clear x0 x1
      go_loopg [5] n1 (fun dd iv wr => ∃ i : Nat, dd = n1 - i ∧ i ≤ n1 ∧ iv = .int .i64 i ∧ Hid (wr.ownsRow w.heap.size 3 1 (.slice (some ⟨B, 0, none⟩) n1 n1) n1 ((rkAt g j i).map (Value.int .i64)) ∧ wr.heap[w.heap.size]? = some (.cells #[.slice a1 n1 c1, .slice a2 n2 c2] 31 (0, 0)) ∧ Chg [] w wr))
      case atStart => exact ⟨0, rfl, Nat.zero_le _, rfl, hin⟩
      case round =>
        obtain ⟨i, rfl, hi, rfl, hin2⟩ := hrel
        obtain ⟨wr, rfl⟩ : ∃ wz, wz = wr := ⟨_, rfl⟩
        obtain ⟨x0, x1⟩ := cells2 hin2.out.2.1
        by_cases hil : i < n1
        · have hig : i < g.rules.length := by rw [← H.out.2.2]; exact hil
          obtain ⟨hc, hf, -, -, hput⟩ := row_put hin2.out.1 (i := i) (by omega)
          rw [List.getElem?_map, rkAt_get g j i hig, if_neg (Nat.lt_irrefl _), Option.map_some] at hc
          have HP := Lib.hid (And.intro hput hig)
          clear hput
          obtain ⟨bR, oR, rfl, hn, hbd⟩ := (H.out.1.keep hin2.out.2.2.kp).rules i hig
          have kx0 := cell_rg x0
          have kx1 := cell_rg x1
          have kc := cell_rg hc
          have kb := cell_rg hbd
          have hi1 : (i : Int) < n1 := by omega
          have hlc := (H.out.1).le1
          have hi2 : (i : Int) < c1 := by omega
          by_cases hz : rk g j i = 0
          · obtain ⟨q, hq, hqn⟩ := right_body H.out.2.1 hig
            have hmay : mayN g.nodes (callsB (rkAt g j i) ((j : Int) + 1)) q = mayR g j g.rules[i].body := by rw [rkAt_calls, hq]; rfl
            have cA := calls_rg (w := wr) (fun w1 h1 => refMay_any (some ⟨bR, oR, none⟩) n1 c1 a2 n2 c2 g H.out.2.1 (some ⟨B, 0, none⟩) n1 n1 (rkAt g j i) (rkAt_len g j i) (by rw [rkAt_len]; exact H.out.2.2) ((j : Int) + 1) g.nodes.length q (by omega) hqn w1 (H.out.1.keep (hin2.out.2.2.tr h1).kp) (by
              have h9 : OwnInts wr (.slice (some ⟨B, 0, none⟩) n1 n1) (rkAt g j i) := by
                unfold OwnInts
                rw [rkAt_len, ← H.out.2.2]
                exact row_base hin2.out.1 (Nat.zero_le _)
              exact (ownInts_read h9).1.keep h1.kp))
            rw [hmay] at cA
            rw [hq] at kb
            rw [hz] at kc hc
            obtain ⟨fv, hfv⟩ : ∃ fv, fv = mayR g j g.rules[i].body := ⟨_, rfl⟩
            rw [← hfv] at cA
            have HK := Lib.hid (And.intro hfv hz)
            clear hfv hz hq hmay hqn hn hbd
            cases fv with
            | true =>
              go_wp2_with fail
              refine wp_region_quiet_below (by kernel_rfl) (by kernel_rfl) ?_
              repeat (go_big_quiet_step (with_reducible exact cA _ _))
              refine wpQuiet_nil ?_
              intro w7 hw7
              have hc7 := chg_of_rg hw7
              have hc9 := hc7.cell hc (by simp)
              obtain ⟨-, hf9, -, -, hput⟩ := row_put (hc7.row hin2.out.1 (fun _ _ => by simp)) (i := i) (by omega)
              have HW := Lib.hid (And.intro (hput (.int .i64 ((j : Int) + 1))) (And.intro (hc7.heap hin2.out.2.1 (by simp)) (hin2.out.2.2.tr hc7)))
              clear hw7 hc7 cA kx0 kx1 kc kb hc hf hput x0 x1
              go_wp2_with fail
              go_roundg (n1 - (i + 1))
              case measure => omega
              case rel =>
                obtain ⟨⟨p1, p2⟩, p3, p4⟩ := HW.out
                refine ⟨i + 1, rfl, by omega, by go_num, Lib.hid ⟨?_, p2.heap p3 (by have := H0.out.2.2.2; simp; omega), p4.trans p2 (fun y hy => .inr (by have := H0.out.2.2.2; simp at hy; omega))⟩⟩
                rw [rkAt_put g j i HP.out.2 (by rw [rk_step g j HP.out.2, if_pos ⟨HK.out.2, HK.out.1.symm⟩]), List.map_set]
                exact p1
            | false =>
              go_wp2_with fail
              refine wp_region_quiet_below (by kernel_rfl) (by kernel_rfl) ?_
              repeat (go_big_quiet_step (with_reducible exact cA _ _))
              refine wpQuiet_nil ?_
              intro w7 hw7
              have hc7 := chg_of_rg hw7
              have HW := Lib.hid (And.intro (hc7.row hin2.out.1 (fun _ _ => by simp)) (And.intro (hc7.heap hin2.out.2.1 (by simp)) (hin2.out.2.2.tr hc7)))
              clear hw7 hc7 cA kx0 kx1 kc kb hc hf x0 x1
              go_wp2_with fail
              go_roundg (n1 - (i + 1))
              case measure => omega
              case rel =>
                refine ⟨i + 1, rfl, by omega, by go_num, Lib.hid ⟨?_, HW.out.2.1, HW.out.2.2⟩⟩
                rw [rkAt_skip g j i (by rw [rk_step g j HP.out.2, if_neg (fun h => by rw [← HK.out.1] at h; exact absurd h.2 (by simp))])]
                exact HW.out.1
          · obtain ⟨z, hzz⟩ : ∃ z : Nat, z = rk g j i := ⟨_, rfl⟩
            rw [← hzz] at kc hc hz
            have hz1 : ¬ ((z : Int) = 0) := by omega
            have HK := Lib.hid (And.intro hzz hz)
            have hd : ((z : Int) == 0) = false := by simp; exact hz
            clear hzz hz hn
            go_wp2_with fail
            refine wp_region_quiet_below (by kernel_rfl) (by kernel_rfl) ?_
            repeat (go_big_quiet_step (fail))
            refine wpQuiet_nil ?_
            intro w7 hw7
            have hc7 := chg_of_rg hw7
            have HW := Lib.hid (And.intro (hc7.row hin2.out.1 (fun _ _ => by simp)) (And.intro (hc7.heap hin2.out.2.1 (by simp)) (hin2.out.2.2.tr hc7)))
            clear hw7 hc7 kx0 kx1 kc kb hc hf x0 x1 hbd
            go_wp2_with fail
            go_roundg (n1 - (i + 1))
            case measure => omega
            case rel =>
              refine ⟨i + 1, rfl, by omega, by go_num, Lib.hid ⟨?_, HW.out.2.1, HW.out.2.2⟩⟩
              rw [rkAt_skip g j i (by rw [rk_step g j HP.out.2, if_neg (fun h => HK.out.2 (HK.out.1.trans h.1))])]
              exact HW.out.1
        · obtain rfl : i = n1 := by omega
          have h9 := hin2.out.1
          have e9 : rkAt g j i = rkAt g (j + 1) 0 := by rw [← rkAt_next, ← H.out.2.2]
          rw [e9] at h9
          have HW := Lib.hid (And.intro h9 hin2.out.2)
          clear h9 e9
          go_wp2_with fail
          go_roundg (i - (j + 1))
          case measure => omega
          case rel => exact ⟨j + 1, rfl, by omega, by go_num, HW⟩
    · obtain rfl : j = n1 := by omega
      go_wp2_with fail
      go_ret
      obtain ⟨h1, h2, h3⟩ := hin.out
      have he := H.out.2.2
      have e9 : rkAt g j 0 = ranksL g g.rules.length := by
        unfold rkAt
        rw [he]
        simp [ranksL]
      rw [e9] at h1
      have hl : (ranksL g g.rules.length).length = j := by rw [← e9, rkAt_len, he]
      refine ⟨some ⟨B, 0, none⟩, j, congrArg (fun m => Ending.returned (.slice (some ⟨B, 0, none⟩) m j)) hl.symm, ?_, h3⟩
      unfold FreshInts
      rw [hl]
      exact h1
end Go.Proofs.YtlklmpjakeedcaaGreatDoor
set_option linter.unusedVariables false
set_option linter.unusedSimpArgs false
set_option linter.unnecessarySimpa false
namespace Go.Proofs.YtlklmpjakeedcaaGreatDoor
open Go.RowKit Go.MapKept Go.Shelf

theorem ranks_all {g : Gr} (hr : rightB g = true) : callsB (ranksL g g.rules.length) 1073741824 = callsR g g.rules.length := by
  funext q
  unfold callsB callsR
  by_cases hq : 0 ≤ q
  · rw [decide_eq_true hq, Bool.true_and, Bool.true_and]
    by_cases hl : q.toNat < g.rules.length
    · rw [ranksL_at g _ hl]
      have hle := rk_le g g.rules.length q.toNat
      have := (right_sizes hr).2.1
      rw [Bool.eq_iff_iff]
      simp only [Bool.and_eq_true, decide_eq_true_eq]
      omega
    · rw [rk_out g _ (by omega)]
      have : (ranksL g g.rules.length)[q.toNat]? = none := by rw [List.getElem?_eq_none_iff, ranksL_len]; omega
      rw [this]
      rfl
  · rw [decide_eq_false hq]; rfl
end Go.Proofs.YtlklmpjakeedcaaGreatDoor

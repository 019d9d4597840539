/-
 SortEnds: what the law computes.
 Conditions: none.
-/
import Derived.Test.YtlklmpjakeedcaaGreatDoorSEnSoE1
import Derived.Test.YtlklmpjakeedcaaGreatDoorSEnTE1
import Derived.Test.YtlklmpjakeedcaaGreatDoorSEnSo9
set_option linter.unusedVariables false
set_option linter.unusedSimpArgs false
set_option linter.unnecessarySimpa false
namespace Go.Proofs.YtlklmpjakeedcaaGreatDoor
open Go.RowKit Go.MapKept Go.Shelf

/-- A row of small bodies, of one's own. -/
def LRow (B : Nat) (w : World) (a : Option Addr) (n c : Nat) : Prop := ∃ VS, BRow B w a n c VS ∧ ∀ v ∈ VS, v.2.1 ≤ 3
theorem lrow2 {B : Nat} {w : World} {a0 : Option Addr} {n0 c0 : Nat} (h0 : FBody w a0 n0 c0) (l0 : n0 ≤ 3) {a1 : Option Addr} {n1 c1 : Nat} (h1 : FBody w a1 n1 c1) (l1 : n1 ≤ 3) {K : Nat} (hB : B ≤ K) (hK : w.heap[K]? = some (.cells #[.slice a0 n0 c0, .slice a1 n1 c1] 29 (0, 0))) : LRow B w (some ⟨K, 0, none⟩) 2 2 := by
 refine ⟨[(a0, n0, c0), (a1, n1, c1)], ⟨rfl, ⟨rfl, .inr ⟨K, 2, _, rfl, hB, hK, by decide, by decide, rfl, by simp⟩⟩, fun v hv => ?_⟩, fun v hv => ?_⟩
 ·simp only [List.mem_cons, List.not_mem_nil, or_false] at hv
  rcases hv with rfl | rfl
  ·exact ⟨h0, by show n0 ≤ 50; omega⟩
  ·exact ⟨h1, by show n1 ≤ 50; omega⟩
 ·simp only [List.mem_cons, List.not_mem_nil, or_false] at hv
  rcases hv with rfl | rfl
  ·exact l0
  ·exact l1
theorem LRow.kids {B : Nat} {w : World} {a : Option Addr} {n c : Nat} (h : LRow B w a n c) : ∃ KL : List (List Nd), n = KL.length ∧ (∀ b ∈ KL, Fit b ∧ b.length ≤ 3) ∧ Bodies w a KL := by
 obtain ⟨VS, hV, h3⟩ := h
 have key : ∀ m, m ≤ n → ∃ KL : List (List Nd), m = KL.length ∧ (∀ b ∈ KL, Fit b ∧ b.length ≤ 3) ∧ Bodies w a KL := by
  intro m
  induction m with
  | zero => intro _; exact ⟨[], rfl, (fun b hb => by cases hb), (fun i hi => by cases hi)⟩
  | succ m ih =>
   intro hm
   obtain ⟨KL, h1, h2, h4⟩ := ih (by omega)
   have hr := hV.row
   have hb : ∃ G, a = some ⟨G, 0, none⟩ := by
    rcases hr.2 with ⟨h0, h1⟩ | ⟨g, cap, cur, h0, _⟩
    ·omega
    ·cases h0; exact ⟨g, rfl⟩
   obtain ⟨G, rfl⟩ := hb
   have hiV : m < VS.length := by have := hV.len; omega
   have c0 := (row_put hr (i := m) (by omega)).1
   have e2 : w.cell? ⟨G, 0 + m, none⟩ = some (.slice VS[m].1 VS[m].2.1 VS[m].2.2) := by
    rw [Nat.zero_add, c0]
    simp [hiV]
   obtain ⟨ns, g1, g2, g3⟩ := (hV.own _ (List.getElem_mem hiV)).1.nodes
   have g4 := h3 _ (List.getElem_mem hiV)
   rw [g1] at e2 g4
   refine ⟨KL ++ [ns], by simp [← h1], fun c hc => ?_, fun i hi => ?_⟩
   ·rcases List.mem_append.1 hc with hc | hc
    ·exact h2 c hc
    ·simp only [List.mem_singleton] at hc
     subst hc
     exact ⟨g3, g4⟩
   ·by_cases hlt : i < KL.length
    ·rw [List.getElem_append_left hlt]
     exact h4 i hlt
    ·have hi2 : i = m := by simp at hi; omega
     subst hi2
     refine ⟨G, 0, VS[i].1, VS[i].2.2, rfl, ?_, ?_⟩
     ·rw [List.getElem_append_right (by omega)]
      simpa [← h1] using e2
     ·rw [List.getElem_append_right (by omega)]
      simpa [← h1] using g2
 exact key n (Nat.le_refl _)
theorem LRow.alt {B : Nat} {w : World} {a : Option Addr} {n c : Nat} (h : LRow B w a n c) (hn : n ≤ 5) :
  Calls Tryz.prog 24 #[.int .i64 7, .slice a n c] w (FitBody 16 w) := by
 obtain ⟨KL, h1, h2, h3⟩ := h.kids
 have hs := sumL_le KL 3 (fun b hb => (h2 b hb).2)
 exact (Of_fit w 7 (by decide) a n c (sumL KL) KL h1 h3 (fun b hb => (h2 b hb).1) rfl (by omega) (by omega)).mono fun e w' h => h.le (by omega)
theorem small_snoc {VS : List (Option Addr × Nat × Nat)} (h : ∀ v ∈ VS, v.2.1 ≤ 3) {a : Option Addr} {n c : Nat} (hn : n ≤ 3) : ∀ v ∈ VS ++ [(a, n, c)], v.2.1 ≤ 3 := fun v hv => by
 rcases List.mem_append.1 hv with hv | hv
 ·exact h v hv
 ·rw [List.mem_singleton.1 hv]; exact hn

set_option maxRecDepth 100000 in
set_option maxHeartbeats 64000000 in
theorem sortEndsLaw_any (w : World) (hw : WordsAt w) : Calls Tryz.prog 6 #[] w fun e w' => e = .returned (.bool true) ∧ Chg [] w w' := by
 obtain ⟨j0, hj0, hy0, hy1, hy2⟩ := info_parts Tryz.infoBody9
 have HWd := Lib.hid hw
 clear hw
 go_enter Tryz.func6, Tryz.ntmps6
 go_wp2_with fail
 go_loopg [1] 512 (fun dd iv wr => ∃ n : Nat, dd = 512 - n ∧ n ≤ 512 ∧ iv = .int .i64 n ∧ Hid (Chg [] w wr))
 case atStart => exact ⟨0, rfl, Nat.zero_le _, rfl, Lib.hid (Chg.refl _ _)⟩
 case round =>
  obtain ⟨n, rfl, hn, rfl, hin⟩ := hrel
  obtain ⟨wp, rfl⟩ : ∃ wz, wz = wr := ⟨_, rfl⟩
  by_cases hln : n < 512
  ·go_wp2_with fail
   rw [show decide ((n : Int) < 512) = true from decide_eq_true (by omega)]
   go_loopg [3, 2] 3 (fun dd iv bv wr => ∃ (i : Nat) (ba : Option Addr) (bc : Nat), dd = 3 - i ∧ i ≤ 3 ∧ iv = .int .i64 i ∧ bv = .slice ba i bc ∧ Hid (∃ VS, BRow wp.heap.size wr ba i bc VS ∧ Chg [] wp wr))
   case atStart => exact ⟨0, none, 0, rfl, Nat.zero_le _, rfl, rfl, Lib.hid ⟨[], BRow.nil _ _, Chg.refl _ _⟩⟩
   case round =>
    obtain ⟨i, ba, bc, rfl, hi, rfl, rfl, hin2⟩ := hrel
    obtain ⟨ws, rfl⟩ : ∃ wz, wz = wr := ⟨_, rfl⟩
    by_cases hli : i < 3
    ·obtain ⟨q3, hq3, hq3l⟩ : ∃ q : Nat, (n : Int) % 3 = q ∧ q < 3 := ⟨n % 3, by omega, by omega⟩
     have hq3t : (n : Int).tmod 3 = q3 := by rw [Int.tmod_eq_emod_of_nonneg (by omega)]; exact hq3
     have hq3w : IntKind.i64.wrap (q3 : Int) = q3 := IntWalk.i64_in _ (by omega)
     go_wp2_with fail
     rw [show decide ((i : Int) < 3) = true from decide_eq_true (by omega)]
     refine (Word_fit _ ⟨#[97]⟩ (by decide)).mono ?_
     rintro e wa ⟨ra, na, ca, rfl, ma, fa, ha⟩
     have Ha := Lib.hid (And.intro ha fa)
     clear ha fa
     go_wp2_with fail
     refine (Word_fit _ ⟨#[98]⟩ (by decide)).mono ?_
     rintro e wb ⟨rb, nb, cb, rfl, mb, fb, hb⟩
     have Hb := Lib.hid (And.intro (Ha.out.1.tr hb) (And.intro (Ha.out.2.chg0 hb) fb))
     clear hb fb
     go_wp2_with fail
     refine (Call_fit _ _ _ (by constructor <;> omega) (by decide)).mono ?_
     rintro e wc ⟨rc, nc, cc, rfl, mc, fc, hc⟩
     have Hc := Lib.hid (And.intro (Hb.out.1.tr hc) (And.intro (Hb.out.2.1.chg0 hc) (And.intro (Hb.out.2.2.chg0 hc) fc)))
     clear hc fc
     go_wp2_with fail
     refine (Chain_fit _ rb nb cb Hc.out.2.2.1 rc nc cc Hc.out.2.2.2 (by omega)).mono ?_
     rintro e wd ⟨rd, nd, cd, rfl, md, fd, hd⟩
     have hca := (Chg.refl [] wd).alloc (.cells #[.slice ra na ca, .slice rd nd cd] 29)
     have hl2 := lrow2 (B := ws.heap.size) (Hc.out.2.1.chg0 (hd.tr hca)) (by omega) (fd.chg0 hca) (by omega) (Hc.out.1.tr hd).size (heap_alloc_same wd (.cells #[.slice ra na ca, .slice rd nd cd] 29))
     have H8 := Lib.hid (And.intro hl2 ((Hc.out.1.tr hd).tr hca))
     clear hl2 hca fd hd hq3t hq3w hq3 hq3l
     go_wp2_with fail
     obtain ⟨wt, ewt⟩ : ∃ u, u = wd.alloc (.cells #[.slice ra na ca, .slice rd nd cd] 29) := ⟨_, rfl⟩
     obtain ⟨K8, eK8⟩ : ∃ k, k = wd.heap.size := ⟨_, rfl⟩
     rw [← ewt, ← eK8] at H8
     rw [← ewt, ← eK8]
     clear ewt eK8
     go_loopg [5, 4] 3 (fun dd kv lv wr => ∃ (k lq lc : Nat) (la : Option Addr), dd = 3 - k ∧ k ≤ 3 ∧ lq ≤ k + 2 ∧ kv = .int .i64 k ∧ lv = .slice la lq lc ∧ Hid (LRow ws.heap.size wr la lq lc ∧ Chg [] ws wr))
     case atStart => exact ⟨0, 2, 2, _, rfl, by omega, Nat.le_refl _, rfl, rfl, H8⟩
     case round =>
      obtain ⟨k, lq, lc, la, rfl, hk, hlq, rfl, rfl, hin3⟩ := hrel
      obtain ⟨wk, rfl⟩ : ∃ z, z = wr := ⟨_, rfl⟩
      by_cases hkl : k < 3
      ·cases hb : (bits BinOp.and IntKind.i64 ((n : Int) / 2 ^ (3 * i + k)) 1 == 1) with
       | true =>
        by_cases h3 : ((n : Int) + i + k) % 3 = 0
        ·have hw1 : IntKind.i64.wrap ((n : Int) + i) = (n : Int) + i := IntWalk.i64_in _ (by omega)
         have hw2 : IntKind.i64.wrap ((n : Int) + i + k) = (n : Int) + i + k := IntWalk.i64_in _ (by omega)
         have ht1 : Int.tmod ((n : Int) + i + k) 3 = ((n : Int) + i + k) % 3 := Int.tmod_eq_emod_of_nonneg (by omega)
         have ht2 : Int.tmod (n : Int) 4 = (n : Int) % 4 := Int.tmod_eq_emod_of_nonneg (by omega)
         go_wp2_with fail
         refine (Call_fit _ _ _ (by constructor <;> omega) (by constructor <;> omega)).mono ?_
         rintro e wa ⟨ra, na, ca, rfl, ma, fa, ha⟩
         have Ha := Lib.hid (And.intro ha fa)
         clear ha fa
         go_wp2_with fail
         refine (In_fit _ 11 (by decide) ra na ca Ha.out.2 (by omega)).mono ?_
         rintro e wb ⟨rb, nb, cb, rfl, mb, fb, hb⟩
         have Hb := Lib.hid (And.intro (Ha.out.1.tr hb) fb)
         clear hb fb
         obtain ⟨⟨VS, hV, hV3⟩, hcV⟩ := hin3.out
         replace hV3 := Lib.hid hV3
         have hca := (Chg.refl [] wb).alloc (.cells #[.slice rb nb cb] 29)
         have hCd := Hb.out.1
         have hV2 := hV.chg0 (hCd.tr hca)
         have hnew := cells_at (w := wb.alloc (.cells #[.slice rb nb cb] 29)) (heap_alloc_same _ _)
         have h1' : ∀ u ∈ [Value.slice rb nb cb], u.oneCell' = true := by simp [Value.oneCell']
         have h2' : lq + 1 ≤ maxLen ∧ (lq + 1) * 24 ≤ 140737488355328 := by simp only [maxLen]; omega
         have hb' : ws.heap.size ≤ (wb.alloc (.cells #[.slice rb nb cb] 29)).heap.size := ((hcV.tr hCd).tr hca).size
         have HA := Lib.hid (And.intro hV2.row (And.intro hnew (And.intro h1' (And.intro h2' (And.intro hb' hV2)))))
         have HD := Lib.hid (And.intro ((hcV.tr hCd).tr hca) (Hb.out.2.chg0 hca))
         clear hnew h1' h2' hb' hca hCd hV2 hV hcV
         go_wp2_with (at_builtin; refine wpList_append_own_at _ rfl _ _ 41 rfl ws.heap.size 29 j0 _ 1 24 Tryz.underlying41 hj0 hy0 hy1 hy2 rfl (by decide) (.slice la lq lc) lq (VS.map fun v => .slice v.1 v.2.1 v.2.2) rfl HA.out.1 ⟨wb.heap.size, 0, none⟩ 1 1 [.slice rb nb cb] rfl rfl HA.out.2.1 HA.out.2.2.1 HA.out.2.2.2.1.1 HA.out.2.2.2.1.2 HA.out.2.2.2.2.1 ?_; intro v' w7 hr7 hg7 hn7 hb7; obtain ⟨a7, c7, rfl⟩ := ownsRow_slice hr7; have HW := Lib.hid (And.intro hr7 (And.intro hg7 hb7)); clear hr7 hg7 hn7 hb7)
         obtain ⟨s1, s2⟩ := HA.out.2.2.2.2.2.snoc HD.out.2 (by omega) HW.out.1 HW.out.2.1
         have HE := Lib.hid (And.intro s1 (s2 ws HD.out.1 (Nat.le_refl _)))
         clear s1 s2
         go_roundg (3 - (k + 1))
         case measure => omega
         case rel => exact ⟨k + 1, lq + 1, c7, a7, rfl, by omega, by omega, by go_num, rfl, Lib.hid ⟨⟨_, HE.out.1, small_snoc hV3.out (by omega)⟩, HE.out.2⟩⟩
        ·have hw1 : IntKind.i64.wrap ((n : Int) + i) = (n : Int) + i := IntWalk.i64_in _ (by omega)
         have hw2 : IntKind.i64.wrap ((n : Int) + i + k) = (n : Int) + i + k := IntWalk.i64_in _ (by omega)
         have ht1 : Int.tmod ((n : Int) + i + k) 3 = ((n : Int) + i + k) % 3 := Int.tmod_eq_emod_of_nonneg (by omega)
         have ht2 : Int.tmod (n : Int) 4 = (n : Int) % 4 := Int.tmod_eq_emod_of_nonneg (by omega)
         go_wp2_with fail
         refine (Call_fit _ _ _ (by constructor <;> omega) (by constructor <;> omega)).mono ?_
         rintro e wa ⟨ra, na, ca, rfl, ma, fa, ha⟩
         have Ha := Lib.hid (And.intro ha fa)
         clear ha fa
         obtain ⟨⟨VS, hV, hV3⟩, hcV⟩ := hin3.out
         replace hV3 := Lib.hid hV3
         have hca := (Chg.refl [] wa).alloc (.cells #[.slice ra na ca] 29)
         have hCd := Ha.out.1
         have hV2 := hV.chg0 (hCd.tr hca)
         have hnew := cells_at (w := wa.alloc (.cells #[.slice ra na ca] 29)) (heap_alloc_same _ _)
         have h1' : ∀ u ∈ [Value.slice ra na ca], u.oneCell' = true := by simp [Value.oneCell']
         have h2' : lq + 1 ≤ maxLen ∧ (lq + 1) * 24 ≤ 140737488355328 := by simp only [maxLen]; omega
         have hb' : ws.heap.size ≤ (wa.alloc (.cells #[.slice ra na ca] 29)).heap.size := ((hcV.tr hCd).tr hca).size
         have HA := Lib.hid (And.intro hV2.row (And.intro hnew (And.intro h1' (And.intro h2' (And.intro hb' hV2)))))
         have HD := Lib.hid (And.intro ((hcV.tr hCd).tr hca) (Ha.out.2.chg0 hca))
         clear hnew h1' h2' hb' hca hCd hV2 hV hcV
         go_wp2_with (at_builtin; refine wpList_append_own_at _ rfl _ _ 41 rfl ws.heap.size 29 j0 _ 1 24 Tryz.underlying41 hj0 hy0 hy1 hy2 rfl (by decide) (.slice la lq lc) lq (VS.map fun v => .slice v.1 v.2.1 v.2.2) rfl HA.out.1 ⟨wa.heap.size, 0, none⟩ 1 1 [.slice ra na ca] rfl rfl HA.out.2.1 HA.out.2.2.1 HA.out.2.2.2.1.1 HA.out.2.2.2.1.2 HA.out.2.2.2.2.1 ?_; intro v' w7 hr7 hg7 hn7 hb7; obtain ⟨a7, c7, rfl⟩ := ownsRow_slice hr7; have HW := Lib.hid (And.intro hr7 (And.intro hg7 hb7)); clear hr7 hg7 hn7 hb7)
         obtain ⟨s1, s2⟩ := HA.out.2.2.2.2.2.snoc HD.out.2 (by omega) HW.out.1 HW.out.2.1
         have HE := Lib.hid (And.intro s1 (s2 ws HD.out.1 (Nat.le_refl _)))
         clear s1 s2
         go_roundg (3 - (k + 1))
         case measure => omega
         case rel => exact ⟨k + 1, lq + 1, c7, a7, rfl, by omega, by omega, by go_num, rfl, Lib.hid ⟨⟨_, HE.out.1, small_snoc hV3.out (by omega)⟩, HE.out.2⟩⟩
       | false =>
        go_wp2_with fail
        go_roundg (3 - (k + 1))
        case measure => omega
        case rel => exact ⟨k + 1, lq, lc, la, rfl, by omega, by omega, by go_num, rfl, hin3⟩
      ·obtain rfl : k = 3 := by omega
       go_wp2_with fail
       refine (hin3.out.1.alt (by omega)).mono ?_
       rintro e wa ⟨ra, na, ca, rfl, ma, fa, ha⟩
       have Ha := Lib.hid (And.intro (hin3.out.2.tr ha) fa)
       clear ha fa
       obtain ⟨VS, hV, hcV⟩ := hin2.out
       have hca := (Chg.refl [] wa).alloc (.cells #[.slice ra na ca] 29)
       have hCd := Ha.out.1
       have hV2 := hV.chg0 (hCd.tr hca)
       have hnew := cells_at (w := wa.alloc (.cells #[.slice ra na ca] 29)) (heap_alloc_same _ _)
       have h1' : ∀ u ∈ [Value.slice ra na ca], u.oneCell' = true := by simp [Value.oneCell']
       have h2' : i + 1 ≤ maxLen ∧ (i + 1) * 24 ≤ 140737488355328 := by simp only [maxLen]; omega
       have hb' : wp.heap.size ≤ (wa.alloc (.cells #[.slice ra na ca] 29)).heap.size := ((hcV.tr hCd).tr hca).size
       have HA := Lib.hid (And.intro hV2.row (And.intro hnew (And.intro h1' (And.intro h2' (And.intro hb' hV2)))))
       have HD := Lib.hid (And.intro ((hcV.tr hCd).tr hca) (Ha.out.2.chg0 hca))
       clear hnew h1' h2' hb' hca hCd hV2 hV hcV
       go_wp2_with (at_builtin; refine wpList_append_own_at _ rfl _ _ 41 rfl wp.heap.size 29 j0 _ 1 24 Tryz.underlying41 hj0 hy0 hy1 hy2 rfl (by decide) (.slice ba i bc) i (VS.map fun v => .slice v.1 v.2.1 v.2.2) rfl HA.out.1 ⟨wa.heap.size, 0, none⟩ 1 1 [.slice ra na ca] rfl rfl HA.out.2.1 HA.out.2.2.1 HA.out.2.2.2.1.1 HA.out.2.2.2.1.2 HA.out.2.2.2.2.1 ?_; intro v' w7 hr7 hg7 hn7 hb7; obtain ⟨a7, c7, rfl⟩ := ownsRow_slice hr7; have HW := Lib.hid (And.intro hr7 (And.intro hg7 hb7)); clear hr7 hg7 hn7 hb7)
       obtain ⟨s1, s2⟩ := HA.out.2.2.2.2.2.snoc HD.out.2 (by omega) HW.out.1 HW.out.2.1
       have HE := Lib.hid (And.intro s1 (s2 wp HD.out.1 (Nat.le_refl _)))
       clear s1 s2
       go_roundg (3 - (i + 1))
       case measure => omega
       case rel => exact ⟨i + 1, a7, c7, rfl, by omega, by go_num, rfl, Lib.hid ⟨_, HE.out.1, HE.out.2⟩⟩
    ·obtain rfl : i = 3 := by omega
     obtain ⟨VS, hV, hcV⟩ := hin2.out
     go_wp2_with fail
     refine (Gram_fit _ ba 3 bc (hV.bodies (by omega)) (by omega)).mono ?_
     rintro e wg ⟨b1, d1, b2, m2, d2, rs0, L0, rfl, fg, hz⟩
     have HG := Lib.hid (And.intro fg ((hin.out.tr hcV).tr hz))
     clear hV hcV fg hz
     go_wp2_with fail
     refine (tells14_fit HG.out.1 _).mono ?_
     rintro e wz ⟨rfl, h1⟩
     have HV := Lib.hid (HG.out.2.tr h1)
     clear h1
     go_wp2_with fail
     go_roundg (512 - (n + 1))
     case measure => omega
     case rel => exact ⟨n + 1, rfl, by omega, by go_num, HV⟩
  ·obtain rfl : n = 512 := by omega
   go_wp2_with fail
   go_loopg [7] 12 (fun dd iv wr => ∃ n : Nat, dd = 12 - n ∧ n ≤ 12 ∧ iv = .int .i64 n ∧ Hid (Chg [] w wr))
   case atStart => exact ⟨0, rfl, Nat.zero_le _, rfl, hin⟩
   case round =>
    obtain ⟨n, rfl, hn, rfl, hin⟩ := hrel
    obtain ⟨wq, rfl⟩ : ∃ wz, wz = wr := ⟨_, rfl⟩
    by_cases hln : n < 12
    ·go_wp2_with fail
     rw [show decide ((n : Int) < 12) = true from decide_eq_true (by omega)]
     refine (Known_fit wq n hln).mono ?_
     rintro e w2 ⟨k, hk3, b1, d1, b2, m, d2, rs, L, rfl, hm, fg, h⟩
     have HF := Lib.hid (And.intro fg (hin.out.tr h))
     clear fg h
     go_wp2_with fail
     refine (tells14_fit HF.out.1 _).mono ?_
     rintro e w3 ⟨rfl, h1⟩
     have HV := Lib.hid (HF.out.2.tr h1)
     clear h1
     go_wp2_with fail
     go_roundg (12 - (n + 1))
     case measure => omega
     case rel => exact ⟨n + 1, rfl, by omega, by go_num, HV⟩
    ·obtain rfl : n = 12 := by omega
     go_wp2_with fail
     refine (rings14_any wq).mono ?_
     rintro e w2 ⟨rfl, h2⟩
     have H2 := Lib.hid (hin.out.tr h2)
     clear h2
     obtain ⟨gn1, gn2⟩ := gram_none w2
     go_wp2_with fail
     refine (tells14_any w2 none 0 0 none 0 0 _ gn1 gn2 (by decide) (by decide) (fun x hx => by cases hx) _).mono ?_
     rintro e w3 ⟨rfl, h3⟩
     have H3 := Lib.hid (H2.out.tr h3)
     clear h3 gn1 gn2
     go_wp2_with fail
     refine (awake14_any w3 (HWd.out.chg H3.out)).mono ?_
     rintro e w4 ⟨rfl, h4⟩
     have H4 := Lib.hid (H3.out.tr h4)
     clear h4
     go_wp2_with fail
     go_ret
     exact ⟨rfl, H4.out⟩
end Go.Proofs.YtlklmpjakeedcaaGreatDoor

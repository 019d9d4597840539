/-
 SortEnds: rings of rules, with something else at one of them.
 Conditions: none.
-/
import Derived.Test.YtlklmpjakeedcaaGreatDoorSEnNEk
import Derived.Test.YtlklmpjakeedcaaGreatDoorSEnSoT
import Derived.Laws.IdiomStrings
set_option linter.unusedVariables false
set_option linter.unusedSimpArgs false
set_option linter.unnecessarySimpa false
namespace Go.Proofs.YtlklmpjakeedcaaGreatDoor
open Go.RowKit Go.MapKept Go.Shelf

theorem tells14_fit {B : Nat} {w : World} {b1 : Option Addr} {n d1 : Nat} {b2 : Option Addr} {m d2 : Nat} {rs : List Rl} {L : List Cp} (h : FG B w b1 n d1 b2 m d2 rs L) (x : Int) :
  Calls Tryz.prog 19 #[.agg #[.slice b1 n d1, .slice b2 m d2], .int .i64 x] w fun e w' => e = .returned (.bool true) ∧ Chg [] w w' := by
 obtain ⟨g1, g2⟩ := h.gram
 exact tells14_any w b1 n d1 b2 m d2 _ g1 g2 (by have := h.fn; omega) (by have := h.fm; omega) (fun z hz => by have := h.fk z hz; omega) x

set_option maxRecDepth 100000 in
set_option maxHeartbeats 64000000 in
theorem rings14_any (w : World) : Calls Tryz.prog 27 #[] w fun e w' => e = .returned (.bool true) ∧ Chg [] w w' := by
 obtain ⟨j0, hj0, hy0, hy1, hy2⟩ := info_parts Tryz.infoBody9
 go_enter Tryz.func27, Tryz.ntmps27
 go_wp2_with fail
 go_loopg [1] 33 (fun dd iv wr => ∃ n : Nat, dd = 34 - n ∧ 1 ≤ n ∧ n ≤ 40 ∧ iv = .int .i64 n ∧ Hid (Chg [] w wr))
 case atStart => exact ⟨1, rfl, Nat.le_refl _, by decide, rfl, Lib.hid (Chg.refl _ _)⟩
 case round =>
  obtain ⟨n, rfl, hn1, hn, rfl, hin⟩ := hrel
  obtain ⟨wq, rfl⟩ : ∃ wz, wz = wr := ⟨_, rfl⟩
  by_cases hln : n < 34
  ·go_wp2_with fail
   rw [show decide ((n : Int) < 34) = true from decide_eq_true (by omega)]
   go_loopg [2] 3 (fun dd iv wr => ∃ k : Nat, dd = 3 - k ∧ k ≤ 3 ∧ iv = .int .i64 k ∧ Hid (Chg [] w wr))
   case atStart => exact ⟨0, rfl, Nat.zero_le _, rfl, hin⟩
   case round =>
    obtain ⟨k, rfl, hk, rfl, hin2⟩ := hrel
    obtain ⟨wp, rfl⟩ : ∃ wz, wz = wr := ⟨_, rfl⟩
    by_cases hlk : k < 3
    ·go_wp2_with fail
     rw [show decide ((k : Int) < 3) = true from decide_eq_true (by omega)]
     go_loopg [4, 3] n (fun dd iv bv wr => ∃ (i : Nat) (ba : Option Addr) (bc : Nat), dd = n - i ∧ i ≤ n ∧ iv = .int .i64 i ∧ bv = .slice ba i bc ∧ Hid (∃ VS, BRow wp.heap.size wr ba i bc VS ∧ Chg [] wp wr))
     case atStart => exact ⟨0, none, 0, rfl, Nat.zero_le _, rfl, rfl, Lib.hid ⟨[], BRow.nil _ _, Chg.refl _ _⟩⟩
     case round =>
      obtain ⟨i, ba, bc, rfl, hi, rfl, rfl, hin3⟩ := hrel
      obtain ⟨ws, rfl⟩ : ∃ wz, wz = wr := ⟨_, rfl⟩
      by_cases hli : i < n
      ·rcases (show k = 0 ∨ k = 1 ∨ k = 2 by omega) with rfl | rfl | rfl
       ·have hz0 : 0 ≤ ((i : Int) + 1) % n ∧ ((i : Int) + 1) % n < n := ⟨Int.emod_nonneg _ (by omega), Int.emod_lt_of_pos _ (by omega)⟩
        have HZ9 := Lib.hid hz0
        clear hz0
        go_wp2_with fail
        refine (Call_fit _ _ _ (by have := HZ9.out; constructor <;> omega) (by decide)).mono ?_
        rintro e wa ⟨ra, na, ca, rfl, ma, fa, ha⟩
        have Ha := Lib.hid (And.intro ha fa)
        clear ha fa
        obtain ⟨VS, hV, hcV⟩ := hin3.out
        have hca := (Chg.refl [] wa).alloc (.cells #[.slice ra na ca] 29)
        have hCd := Ha.out.1
        have hV2 := hV.chg0 (hCd.tr hca)
        have hnew := cells_at (w := wa.alloc (.cells #[.slice ra na ca] 29)) (heap_alloc_same _ _)
        have h1' : ∀ u ∈ [Value.slice ra na ca], u.oneCell' = true := by simp [Value.oneCell']
        have h2' : i + 1 ≤ maxLen ∧ (i + 1) * 24 ≤ 140737488355328 := by simp only [maxLen]; omega
        have hb' : wp.heap.size ≤ (wa.alloc (.cells #[.slice ra na ca] 29)).heap.size := ((hcV.tr hCd).tr hca).size
        have HA := Lib.hid (And.intro hV2.row (And.intro hnew (And.intro h1' (And.intro h2' (And.intro hb' hV2)))))
        have HD := Lib.hid (And.intro ((hcV.tr hCd).tr hca) (Ha.out.2.chg0 hca))
        clear hnew h1' h2' hb' hca hCd hV2 hV hcV
        go_wp2_with (at_builtin; refine wpList_append_own_at _ rfl _ _ 41 rfl wp.heap.size 29 j0 _ 1 24 Tryz.underlying41 hj0 hy0 hy1 hy2 rfl (by decide) (.slice ba i bc) i (VS.map fun v => .slice v.1 v.2.1 v.2.2) rfl HA.out.1 ⟨wa.heap.size, 0, none⟩ 1 1 [.slice ra na ca] rfl rfl HA.out.2.1 HA.out.2.2.1 HA.out.2.2.2.1.1 HA.out.2.2.2.1.2 HA.out.2.2.2.2.1 ?_; intro v' w7 hr7 hg7 hn7 hb7; obtain ⟨a7, c7, rfl⟩ := ownsRow_slice hr7; have HW := Lib.hid (And.intro hr7 (And.intro hg7 hb7)); clear hr7 hg7 hn7 hb7)
        obtain ⟨s1, s2⟩ := HA.out.2.2.2.2.2.snoc HD.out.2 (by omega) HW.out.1 HW.out.2.1
        have HE := Lib.hid (And.intro s1 (s2 wp HD.out.1 (Nat.le_refl _)))
        clear s1 s2
        go_roundg (n - (i + 1))
        case measure => omega
        case rel => exact ⟨i + 1, a7, c7, rfl, by omega, by go_num, rfl, Lib.hid ⟨_, HE.out.1, HE.out.2⟩⟩
       ·by_cases hmid : i = n / 2
        ·have hz0 : 0 ≤ ((i : Int) + 1) % n ∧ ((i : Int) + 1) % n < n := ⟨Int.emod_nonneg _ (by omega), Int.emod_lt_of_pos _ (by omega)⟩
         have hm9 : ((i : Int) == (n : Int) / 2) = true := by simp; omega
         clear hmid
         have HZ9 := Lib.hid hz0
         clear hz0
         go_wp2_with fail
         refine (Call_fit _ _ _ (by have := HZ9.out; constructor <;> omega) (by decide)).mono ?_
         rintro e wa ⟨ra, na, ca, rfl, ma, fa, ha⟩
         have Ha := Lib.hid (And.intro ha fa)
         clear ha fa
         go_wp2_with fail
         refine (Call_fit _ _ _ (by constructor <;> omega) (by decide)).mono ?_
         rintro e wb ⟨rb, nb, cb, rfl, mb, fb, hb⟩
         have Hb := Lib.hid (And.intro (Ha.out.1.tr hb) (And.intro (Ha.out.2.chg0 hb) fb))
         clear hb fb
         go_wp2_with fail
         refine (First_fit _ ra na ca Hb.out.2.1 rb nb cb Hb.out.2.2 (by omega)).mono ?_
         rintro e wd ⟨rd, nd, cd, rfl, md, fd, hd⟩
         have Hd := Lib.hid (And.intro (Hb.out.1.tr hd) fd)
         clear hd fd
         obtain ⟨VS, hV, hcV⟩ := hin3.out
         have hca := (Chg.refl [] wd).alloc (.cells #[.slice rd nd cd] 29)
         have hCd := Hd.out.1
         have hV2 := hV.chg0 (hCd.tr hca)
         have hnew := cells_at (w := wd.alloc (.cells #[.slice rd nd cd] 29)) (heap_alloc_same _ _)
         have h1' : ∀ u ∈ [Value.slice rd nd cd], u.oneCell' = true := by simp [Value.oneCell']
         have h2' : i + 1 ≤ maxLen ∧ (i + 1) * 24 ≤ 140737488355328 := by simp only [maxLen]; omega
         have hb' : wp.heap.size ≤ (wd.alloc (.cells #[.slice rd nd cd] 29)).heap.size := ((hcV.tr hCd).tr hca).size
         have HA := Lib.hid (And.intro hV2.row (And.intro hnew (And.intro h1' (And.intro h2' (And.intro hb' hV2)))))
         have HD := Lib.hid (And.intro ((hcV.tr hCd).tr hca) (Hd.out.2.chg0 hca))
         clear hnew h1' h2' hb' hca hCd hV2 hV hcV
         go_wp2_with (at_builtin; refine wpList_append_own_at _ rfl _ _ 41 rfl wp.heap.size 29 j0 _ 1 24 Tryz.underlying41 hj0 hy0 hy1 hy2 rfl (by decide) (.slice ba i bc) i (VS.map fun v => .slice v.1 v.2.1 v.2.2) rfl HA.out.1 ⟨wd.heap.size, 0, none⟩ 1 1 [.slice rd nd cd] rfl rfl HA.out.2.1 HA.out.2.2.1 HA.out.2.2.2.1.1 HA.out.2.2.2.1.2 HA.out.2.2.2.2.1 ?_; intro v' w7 hr7 hg7 hn7 hb7; obtain ⟨a7, c7, rfl⟩ := ownsRow_slice hr7; have HW := Lib.hid (And.intro hr7 (And.intro hg7 hb7)); clear hr7 hg7 hn7 hb7)
         obtain ⟨s1, s2⟩ := HA.out.2.2.2.2.2.snoc HD.out.2 (by omega) HW.out.1 HW.out.2.1
         have HE := Lib.hid (And.intro s1 (s2 wp HD.out.1 (Nat.le_refl _)))
         clear s1 s2
         go_roundg (n - (i + 1))
         case measure => omega
         case rel => exact ⟨i + 1, a7, c7, rfl, by omega, by go_num, rfl, Lib.hid ⟨_, HE.out.1, HE.out.2⟩⟩
        ·have hz0 : 0 ≤ ((i : Int) + 1) % n ∧ ((i : Int) + 1) % n < n := ⟨Int.emod_nonneg _ (by omega), Int.emod_lt_of_pos _ (by omega)⟩
         have hm9 : ((i : Int) == (n : Int) / 2) = false := by simp; omega
         clear hmid
         have HZ9 := Lib.hid hz0
         clear hz0
         go_wp2_with fail
         refine (Call_fit _ _ _ (by have := HZ9.out; constructor <;> omega) (by decide)).mono ?_
         rintro e wa ⟨ra, na, ca, rfl, ma, fa, ha⟩
         have Ha := Lib.hid (And.intro ha fa)
         clear ha fa
         obtain ⟨VS, hV, hcV⟩ := hin3.out
         have hca := (Chg.refl [] wa).alloc (.cells #[.slice ra na ca] 29)
         have hCd := Ha.out.1
         have hV2 := hV.chg0 (hCd.tr hca)
         have hnew := cells_at (w := wa.alloc (.cells #[.slice ra na ca] 29)) (heap_alloc_same _ _)
         have h1' : ∀ u ∈ [Value.slice ra na ca], u.oneCell' = true := by simp [Value.oneCell']
         have h2' : i + 1 ≤ maxLen ∧ (i + 1) * 24 ≤ 140737488355328 := by simp only [maxLen]; omega
         have hb' : wp.heap.size ≤ (wa.alloc (.cells #[.slice ra na ca] 29)).heap.size := ((hcV.tr hCd).tr hca).size
         have HA := Lib.hid (And.intro hV2.row (And.intro hnew (And.intro h1' (And.intro h2' (And.intro hb' hV2)))))
         have HD := Lib.hid (And.intro ((hcV.tr hCd).tr hca) (Ha.out.2.chg0 hca))
         clear hnew h1' h2' hb' hca hCd hV2 hV hcV
         go_wp2_with (at_builtin; refine wpList_append_own_at _ rfl _ _ 41 rfl wp.heap.size 29 j0 _ 1 24 Tryz.underlying41 hj0 hy0 hy1 hy2 rfl (by decide) (.slice ba i bc) i (VS.map fun v => .slice v.1 v.2.1 v.2.2) rfl HA.out.1 ⟨wa.heap.size, 0, none⟩ 1 1 [.slice ra na ca] rfl rfl HA.out.2.1 HA.out.2.2.1 HA.out.2.2.2.1.1 HA.out.2.2.2.1.2 HA.out.2.2.2.2.1 ?_; intro v' w7 hr7 hg7 hn7 hb7; obtain ⟨a7, c7, rfl⟩ := ownsRow_slice hr7; have HW := Lib.hid (And.intro hr7 (And.intro hg7 hb7)); clear hr7 hg7 hn7 hb7)
         obtain ⟨s1, s2⟩ := HA.out.2.2.2.2.2.snoc HD.out.2 (by omega) HW.out.1 HW.out.2.1
         have HE := Lib.hid (And.intro s1 (s2 wp HD.out.1 (Nat.le_refl _)))
         clear s1 s2
         go_roundg (n - (i + 1))
         case measure => omega
         case rel => exact ⟨i + 1, a7, c7, rfl, by omega, by go_num, rfl, Lib.hid ⟨_, HE.out.1, HE.out.2⟩⟩
       ·by_cases hmid : i = n / 2
        ·have hz0 : 0 ≤ ((i : Int) + 1) % n ∧ ((i : Int) + 1) % n < n := ⟨Int.emod_nonneg _ (by omega), Int.emod_lt_of_pos _ (by omega)⟩
         have hm9 : ((i : Int) == (n : Int) / 2) = true := by simp; omega
         clear hmid
         have HZ9 := Lib.hid hz0
         clear hz0
         go_wp2_with fail
         refine (Call_fit _ _ _ (by have := HZ9.out; constructor <;> omega) (by decide)).mono ?_
         rintro e wa ⟨ra, na, ca, rfl, ma, fa, ha⟩
         have Ha := Lib.hid (And.intro ha fa)
         clear ha fa
         go_wp2_with fail
         refine (Leaf_fit _ 2 (by decide)).mono ?_
         rintro e wb ⟨rb, nb, cb, rfl, mb, fb, hb⟩
         have Hb := Lib.hid (And.intro (Ha.out.1.tr hb) (And.intro (Ha.out.2.chg0 hb) fb))
         clear hb fb
         go_wp2_with fail
         refine (Chain_fit _ rb nb cb Hb.out.2.2 ra na ca Hb.out.2.1 (by omega)).mono ?_
         rintro e wd ⟨rd, nd, cd, rfl, md, fd, hd⟩
         have Hd := Lib.hid (And.intro (Hb.out.1.tr hd) fd)
         clear hd fd
         obtain ⟨VS, hV, hcV⟩ := hin3.out
         have hca := (Chg.refl [] wd).alloc (.cells #[.slice rd nd cd] 29)
         have hCd := Hd.out.1
         have hV2 := hV.chg0 (hCd.tr hca)
         have hnew := cells_at (w := wd.alloc (.cells #[.slice rd nd cd] 29)) (heap_alloc_same _ _)
         have h1' : ∀ u ∈ [Value.slice rd nd cd], u.oneCell' = true := by simp [Value.oneCell']
         have h2' : i + 1 ≤ maxLen ∧ (i + 1) * 24 ≤ 140737488355328 := by simp only [maxLen]; omega
         have hb' : wp.heap.size ≤ (wd.alloc (.cells #[.slice rd nd cd] 29)).heap.size := ((hcV.tr hCd).tr hca).size
         have HA := Lib.hid (And.intro hV2.row (And.intro hnew (And.intro h1' (And.intro h2' (And.intro hb' hV2)))))
         have HD := Lib.hid (And.intro ((hcV.tr hCd).tr hca) (Hd.out.2.chg0 hca))
         clear hnew h1' h2' hb' hca hCd hV2 hV hcV
         go_wp2_with (at_builtin; refine wpList_append_own_at _ rfl _ _ 41 rfl wp.heap.size 29 j0 _ 1 24 Tryz.underlying41 hj0 hy0 hy1 hy2 rfl (by decide) (.slice ba i bc) i (VS.map fun v => .slice v.1 v.2.1 v.2.2) rfl HA.out.1 ⟨wd.heap.size, 0, none⟩ 1 1 [.slice rd nd cd] rfl rfl HA.out.2.1 HA.out.2.2.1 HA.out.2.2.2.1.1 HA.out.2.2.2.1.2 HA.out.2.2.2.2.1 ?_; intro v' w7 hr7 hg7 hn7 hb7; obtain ⟨a7, c7, rfl⟩ := ownsRow_slice hr7; have HW := Lib.hid (And.intro hr7 (And.intro hg7 hb7)); clear hr7 hg7 hn7 hb7)
         obtain ⟨s1, s2⟩ := HA.out.2.2.2.2.2.snoc HD.out.2 (by omega) HW.out.1 HW.out.2.1
         have HE := Lib.hid (And.intro s1 (s2 wp HD.out.1 (Nat.le_refl _)))
         clear s1 s2
         go_roundg (n - (i + 1))
         case measure => omega
         case rel => exact ⟨i + 1, a7, c7, rfl, by omega, by go_num, rfl, Lib.hid ⟨_, HE.out.1, HE.out.2⟩⟩
        ·have hz0 : 0 ≤ ((i : Int) + 1) % n ∧ ((i : Int) + 1) % n < n := ⟨Int.emod_nonneg _ (by omega), Int.emod_lt_of_pos _ (by omega)⟩
         have hm9 : ((i : Int) == (n : Int) / 2) = false := by simp; omega
         clear hmid
         have HZ9 := Lib.hid hz0
         clear hz0
         go_wp2_with fail
         refine (Call_fit _ _ _ (by have := HZ9.out; constructor <;> omega) (by decide)).mono ?_
         rintro e wa ⟨ra, na, ca, rfl, ma, fa, ha⟩
         have Ha := Lib.hid (And.intro ha fa)
         clear ha fa
         obtain ⟨VS, hV, hcV⟩ := hin3.out
         have hca := (Chg.refl [] wa).alloc (.cells #[.slice ra na ca] 29)
         have hCd := Ha.out.1
         have hV2 := hV.chg0 (hCd.tr hca)
         have hnew := cells_at (w := wa.alloc (.cells #[.slice ra na ca] 29)) (heap_alloc_same _ _)
         have h1' : ∀ u ∈ [Value.slice ra na ca], u.oneCell' = true := by simp [Value.oneCell']
         have h2' : i + 1 ≤ maxLen ∧ (i + 1) * 24 ≤ 140737488355328 := by simp only [maxLen]; omega
         have hb' : wp.heap.size ≤ (wa.alloc (.cells #[.slice ra na ca] 29)).heap.size := ((hcV.tr hCd).tr hca).size
         have HA := Lib.hid (And.intro hV2.row (And.intro hnew (And.intro h1' (And.intro h2' (And.intro hb' hV2)))))
         have HD := Lib.hid (And.intro ((hcV.tr hCd).tr hca) (Ha.out.2.chg0 hca))
         clear hnew h1' h2' hb' hca hCd hV2 hV hcV
         go_wp2_with (at_builtin; refine wpList_append_own_at _ rfl _ _ 41 rfl wp.heap.size 29 j0 _ 1 24 Tryz.underlying41 hj0 hy0 hy1 hy2 rfl (by decide) (.slice ba i bc) i (VS.map fun v => .slice v.1 v.2.1 v.2.2) rfl HA.out.1 ⟨wa.heap.size, 0, none⟩ 1 1 [.slice ra na ca] rfl rfl HA.out.2.1 HA.out.2.2.1 HA.out.2.2.2.1.1 HA.out.2.2.2.1.2 HA.out.2.2.2.2.1 ?_; intro v' w7 hr7 hg7 hn7 hb7; obtain ⟨a7, c7, rfl⟩ := ownsRow_slice hr7; have HW := Lib.hid (And.intro hr7 (And.intro hg7 hb7)); clear hr7 hg7 hn7 hb7)
         obtain ⟨s1, s2⟩ := HA.out.2.2.2.2.2.snoc HD.out.2 (by omega) HW.out.1 HW.out.2.1
         have HE := Lib.hid (And.intro s1 (s2 wp HD.out.1 (Nat.le_refl _)))
         clear s1 s2
         go_roundg (n - (i + 1))
         case measure => omega
         case rel => exact ⟨i + 1, a7, c7, rfl, by omega, by go_num, rfl, Lib.hid ⟨_, HE.out.1, HE.out.2⟩⟩
      ·obtain rfl : n = i := by omega
       obtain ⟨VS, hV, hcV⟩ := hin3.out
       go_wp2_with fail
       refine (Gram_fit _ ba n bc (hV.bodies (by omega)) (by omega)).mono ?_
       rintro e wg ⟨b1, d1, b2, m2, d2, rs0, L0, rfl, fg, hz⟩
       have hca := (Chg.refl [] wg).alloc (.cells #[.slice b1 n d1, .slice b2 m2 d2] 31)
       have HG := Lib.hid (And.intro (fg.chg0 hca) (And.intro (heap_alloc_same wg (.cells #[.slice b1 n d1, .slice b2 m2 d2] 31)) (And.intro (hz.tr hca) (hin2.out.tr hcV))))
       clear hV hcV fg hz hca
       go_wp2_with fail
       obtain ⟨w5, e5⟩ : ∃ w5, w5 = wg.alloc (.cells #[.slice b1 n d1, .slice b2 m2 d2] 31) := ⟨_, rfl⟩
       rw [← e5] at HG ⊢
       clear e5
       obtain ⟨T, hT⟩ : ∃ T, T = wg.heap.size := ⟨_, rfl⟩
       rw [← hT] at HG ⊢
       clear hT
       go_loopg [7] (n - 26) (fun dd iv wr => ∃ i : Nat, dd = n - i ∧ 26 ≤ i ∧ iv = .int .i64 i ∧ Hid (∃ rs, FG ws.heap.size wr b1 n d1 b2 m2 d2 rs L0 ∧ wr.heap[T]? = some (.cells #[.slice b1 n d1, .slice b2 m2 d2] 31 (0, 0)) ∧ Chg [] ws wr))
       case atStart => exact ⟨26, rfl, Nat.le_refl _, rfl, Lib.hid ⟨_, HG.out.1, HG.out.2.1, HG.out.2.2.1⟩⟩
       case round =>
        obtain ⟨i, rfl, hi, rfl, hin4⟩ := hrel
        obtain ⟨wy, rfl⟩ : ∃ wz, wz = wr := ⟨_, rfl⟩
        by_cases hli : i < n
        ·obtain ⟨rs, hf, hh, hcy⟩ := hin4.out
         obtain ⟨x0, x1⟩ := cells2 hh
         obtain ⟨R, v, rfl, hR, ⟨cur, hcur⟩, y0, y1, hput⟩ := hf.put hli
         have hne : T ≠ R := fun e => by rw [e, hcur] at hh; cases hh
         have hu : (65 + (i : Int) - 26) = ((UInt8.ofNat (65 + i - 26)).toNat : Int) := by simp only [UInt8.toNat_ofNat']; omega
         have hconv : (convert 86 9 (.slice (some ⟨wy.heap.size, 0, none⟩) 2 2)).run Tryz.prog (wy.alloc (.cells #[.int .u8 95, .int .u8 (65 + (i : Int) - 26)] 5)) = .ok (.string ⟨#[95, UInt8.ofNat (65 + i - 26)]⟩) (wy.alloc (.cells #[.int .u8 95, .int .u8 (65 + (i : Int) - 26)] 5)) :=
          run_convert_bytes_back (P := Tryz.prog) (wy.alloc (.cells #[.int .u8 95, .int .u8 (65 + (i : Int) - 26)] 5)) 86 9 5 ⟨wy.heap.size, 0, none⟩ 2 [95, UInt8.ofNat (65 + i - 26)] Tryz.underlying86 Tryz.underlying5 Tryz.underlying9 (by
           intro j hj
           have hj2 : j = 0 ∨ j = 1 := by simp at hj; omega
           have h1 := cells_at (w := wy.alloc (.cells #[.int .u8 95, .int .u8 (65 + (i : Int) - 26)] 5)) (heap_alloc_same _ _)
           rcases hj2 with rfl | rfl
           ·rw [h1 0 (.int .u8 95) rfl]; rfl
           ·rw [h1 1 (.int .u8 (65 + (i : Int) - 26)) rfl, hu]; rfl)
         obtain ⟨nm, hnm⟩ : ∃ nm : ByteArray, nm = ⟨#[95, UInt8.ofNat (65 + i - 26)]⟩ := ⟨_, rfl⟩
         rw [← hnm] at hconv
         have hns : nm.size ≤ 1000 := by rw [hnm]; show (2 : Nat) ≤ 1000; omega
         obtain ⟨rs', p1, p2⟩ := hput nm hns
         have hRl := lt_of_block hcur
         have HP := Lib.hid (And.intro p1 (And.intro p2 (And.intro hh (And.intro hne (And.intro hR hcy)))))
         clear hf hh hput p1 p2 hu hnm hns hcur hne hR hcy
         go_wp2_with fail
         have hcA := (Chg.refl [] (wy.setCell ⟨R, i * 2, none⟩ (.string nm))).alloc (.cells #[.int .u8 95, .int .u8 (65 + (i : Int) - 26)] 5)
         go_roundg (n - (i + 1))
         case measure => omega
         case rel => exact ⟨i + 1, rfl, by omega, by go_num, Lib.hid ⟨rs', HP.out.1.chg0 hcA, hcA.heap (HP.out.2.1.heap HP.out.2.2.1 (by simp only [List.mem_singleton]; exact HP.out.2.2.2.1)) (by simp), (HP.out.2.2.2.2.2.trans HP.out.2.1 (fun j hj => .inr (by simp only [List.mem_singleton] at hj; subst hj; exact HP.out.2.2.2.2.1))).tr hcA⟩⟩
        ·obtain ⟨rs, hf, hh, hcy⟩ := hin4.out
         obtain ⟨x0, x1⟩ := cells2 hh
         have hTl := lt_of_block hh
         have HF := Lib.hid (And.intro hf (And.intro hh (HG.out.2.2.2.tr hcy)))
         have hm2 : m2 ≤ 3000 := hf.fm
         clear hf hh hcy
         go_wp2_with fail
         refine (tells14_fit HF.out.1 _).mono ?_
         rintro e wz0 ⟨rfl, h1⟩
         have HF := Lib.hid (And.intro (HF.out.1.chg0 h1) (And.intro (h1.heap HF.out.2.1 (by simp)) (HF.out.2.2.tr h1)))
         clear h1 x0 x1 hTl
         obtain ⟨x0, x1⟩ := cells2 HF.out.2.1
         have hTl := lt_of_block HF.out.2.1
         go_wp2_with fail
         refine (tells14_fit HF.out.1 _).mono ?_
         rintro e wz1 ⟨rfl, h1⟩
         have HF := Lib.hid (And.intro (HF.out.1.chg0 h1) (And.intro (h1.heap HF.out.2.1 (by simp)) (HF.out.2.2.tr h1)))
         clear h1 x0 x1 hTl
         obtain ⟨x0, x1⟩ := cells2 HF.out.2.1
         have hTl := lt_of_block HF.out.2.1
         go_wp2_with fail
         refine (tells14_fit HF.out.1 _).mono ?_
         rintro e wz2 ⟨rfl, h1⟩
         have HF := Lib.hid (And.intro (HF.out.1.chg0 h1) (And.intro (h1.heap HF.out.2.1 (by simp)) (HF.out.2.2.tr h1)))
         clear h1 x0 x1 hTl
         obtain ⟨x0, x1⟩ := cells2 HF.out.2.1
         have hTl := lt_of_block HF.out.2.1
         go_wp2_with fail
         refine (tells14_fit HF.out.1 _).mono ?_
         rintro e wz3 ⟨rfl, h1⟩
         have HF := Lib.hid (And.intro (HF.out.1.chg0 h1) (And.intro (h1.heap HF.out.2.1 (by simp)) (HF.out.2.2.tr h1)))
         clear h1 x0 x1 hTl
         obtain ⟨x0, x1⟩ := cells2 HF.out.2.1
         have hTl := lt_of_block HF.out.2.1
         go_wp2_with fail
         go_roundg (3 - (k + 1))
         case measure => omega
         case rel => exact ⟨k + 1, rfl, by omega, by go_num, Lib.hid HF.out.2.2⟩
    ·obtain rfl : k = 3 := by omega
     go_wp2_with fail
     go_roundg (34 - (n + 1 + n % 4))
     case measure => omega
     case rel => exact ⟨n + 1 + n % 4, rfl, by omega, by omega, by go_num, hin2⟩
  ·go_wp2_with fail
   go_ret
   exact ⟨rfl, hin.out⟩
end Go.Proofs.YtlklmpjakeedcaaGreatDoor

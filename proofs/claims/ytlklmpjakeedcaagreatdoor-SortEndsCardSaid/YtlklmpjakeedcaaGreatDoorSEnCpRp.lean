/-
 The parts in their order, by the document.
 Conditions: the rows read as data.
-/
import Derived.Test.YtlklmpjakeedcaaGreatDoorSEnCpRa
import Derived.Test.YtlklmpjakeedcaaGreatDoorSEnCpY
set_option linter.unusedVariables false
set_option linter.unusedSimpArgs false
set_option linter.unnecessarySimpa false
namespace Go.Proofs.YtlklmpjakeedcaaGreatDoor
open Go.RowKit Go.MapKept Go.Shelf

def togB (G : List (List Nat)) (n a j : Nat) : Bool := Cp.wB G n a j && Cp.wB G n j a
def putK (G : List (List Nat)) (n a : Nat) (put : Nat → Bool) (k : Nat) : Nat → Bool := fun j => put j || (decide (j < k) && togB G n a j)
theorem putK_zero (G : List (List Nat)) (n a : Nat) (put : Nat → Bool) : putK G n a put 0 = put := by funext j; unfold putK; simp
theorem putK_yes {G : List (List Nat)} {n a k : Nat} (put : Nat → Bool) (h : togB G n a k = true) : putK G n a put (k + 1) = Cp.upd (putK G n a put k) k true := by
 funext j
 unfold putK Cp.upd
 by_cases e : j = k
 ·subst e; simp [h]
 ·rw [if_neg e]
  by_cases l : j < k
  ·simp [l, show j < k + 1 by omega]
  ·simp [l, show ¬ j < k + 1 by omega]
theorem putK_no {G : List (List Nat)} {n a k : Nat} (put : Nat → Bool) (h : togB G n a k = false) : putK G n a put (k + 1) = putK G n a put k := by
 funext j
 unfold putK
 by_cases e : j = k
 ·subst e; simp [h]
 ·by_cases l : j < k
  ·simp [l, show j < k + 1 by omega]
  ·simp [l, show ¬ j < k + 1 by omega]
theorem putK_all {G : List (List Nat)} {n a : Nat} (hn : n = G.length) (put : Nat → Bool) {j : Nat} (hj : j < n) : putK G n a put n j = Cp.putR put (Cp.classR G a) j := by
 unfold putK Cp.putR Cp.classR togB
 rw [← hn]
 have : ((List.range n).filter (fun k => Cp.wB G n a k && Cp.wB G n k a)).contains j = (Cp.wB G n a j && Cp.wB G n j a) := by
  cases h : (Cp.wB G n a j && Cp.wB G n j a) with
  | true => simp only [Bool.and_eq_true] at h; simp [hj, h]
  | false =>
   have : ¬ (Cp.wB G n a j = true ∧ Cp.wB G n j a = true) := fun k => by rw [k.1, k.2] at h; cases h
   simp [hj, this]
 rw [this]
 simp [hj]
def partK (G : List (List Nat)) (n a k : Nat) : List Nat := (List.range k).filter (togB G n a)
theorem partK_yes {G : List (List Nat)} {n a k : Nat} (h : togB G n a k = true) : natI (partK G n a (k + 1)) = natI (partK G n a k) ++ [(k : Int)] := by
 unfold partK; rw [List.range_succ, List.filter_append, natI_append]; simp [h, natI]
theorem partK_no {G : List (List Nat)} {n a k : Nat} (h : togB G n a k = false) : partK G n a (k + 1) = partK G n a k := by
 unfold partK; rw [List.range_succ, List.filter_append]; simp [h]
theorem partK_len (G : List (List Nat)) (n a k : Nat) : (partK G n a k).length ≤ k := by
 unfold partK
 have := List.length_filter_le (togB G n a) (List.range k)
 rw [List.length_range] at this
 exact this
theorem partK_all {G : List (List Nat)} {n : Nat} (hn : n = G.length) (a : Nat) : partK G n a n = Cp.classR G a := by unfold partK Cp.classR togB; rw [← hn]
theorem rowB_congr {w : World} {b n : Nat} {f g : Nat → Bool} (h : w.heap[b]? = some (rowB ((List.range n).map f))) (hfg : ∀ j, j < n → f j = g j) : w.heap[b]? = some (rowB ((List.range n).map g)) := by
 rw [h]; congr 2; exact List.map_congr_left fun j hj => hfg j (List.mem_range.1 hj)

set_option maxRecDepth 100000 in
set_option maxHeartbeats 16000000 in
theorem refParts_any (w : World) (ga : Option Addr) (n gc : Nat) (VG : List Is) (hn : n = VG.length) (hgc : n ≤ gc ∧ gc ≤ 9223372036854775807) (hx : IntRows w ga VG) :
  Calls Tryz.prog 85 #[.slice ga n gc] w (TabP w (Cp.partsI (VG.map (·.2.2)))) := by
 obtain ⟨X, hX⟩ : ∃ X, X = VG.map (·.2.2) := ⟨_, rfl⟩
 rw [← hX]
 have hnX : n = X.length := by rw [hn, hX, List.length_map]
 obtain ⟨r1, hr1⟩ : ∃ r1, r1 = Cp.rightI X := ⟨_, rfl⟩
 have hRt := rightR_any w ga n gc VG hn (by omega) hx
 rw [← hX, ← hr1] at hRt
 have H := Lib.hid (And.intro hn (And.intro hx (And.intro hX (And.intro hr1 (And.intro hRt hnX)))))
 clear hn hx hX hr1 hRt hnX
 go_enter Tryz.func85, Tryz.ntmps85
 go_wp2_with fail
 refine H.out.2.2.2.2.1.mono ?_
 rintro e w1 ⟨rfl, hc1⟩
 have H1 := Lib.hid hc1
 clear hc1
 cases r1 with
 | false =>
  go_wp2_with fail
  go_ret
  exact ⟨none, 0, [], rfl, OwnIs.nil _ _, by unfold Cp.partsI; rw [← H.out.2.2.2.1]; rfl, H1.out⟩
 | true =>
  have hr := H.out.2.2.2.1.symm
  have hRG := Cp.right_RG hr
  obtain ⟨G, hG⟩ : ∃ G, G = Cp.toG X := ⟨_, rfl⟩
  have hnG : n = G.length := by rw [hG, Cp.toG_len]; exact H.out.2.2.2.2.2
  have hVG : VG.map (·.2.2) = Cp.intsG G := by rw [← H.out.2.2.1, hG, Cp.ints_toG hr]
  rw [← hG] at hRG
  have hn64 : n ≤ 64 := by rw [hnG]; exact hRG.few
  have hl := refLeads_any w1 ga n gc VG G hRG hnG hVG (H.out.2.1.keep H1.out.kp) hgc
  have hres : Cp.partsI X = Cp.intsG (Cp.roundsR G n).2 := by unfold Cp.partsI Cp.partsR; rw [hr, if_pos rfl, ← hG, hnG]
  have HG := Lib.hid (And.intro hl (And.intro hRG (And.intro hnG hres)))
  clear hr hRG hG hnG hVG hl hres
  have hmk := fun W => run_falses n (by omega) W
  go_wp2_with fail
  refine HG.out.1.mono ?_
  rintro e w2 ⟨oa, oc, gs, rfl, hM⟩
  have HM := Lib.hid hM
  clear hM
  have hB := heap_alloc_same w2 (rowB (List.replicate n false))
  have hcB := (Chg.refl [] w2).alloc (rowB (List.replicate n false))
  obtain ⟨pb, hpb⟩ : ∃ pb, pb = w2.heap.size := ⟨_, rfl⟩
  have hB2 : (w2.alloc (rowB (List.replicate n false))).heap[pb]? = some (rowB ((List.range n).map (fun _ => false))) := by rw [hpb, hB, bsOf_false]; rfl
  have HB := Lib.hid (And.intro hB2 (And.intro hcB hpb))
  clear hB hB2 hcB
  go_wp2_with fail
  rw [← hpb]
  clear hpb
  go_loopg [6, 5] n (fun d rv ov wr => ∃ (r : Nat) (ta : Option Addr) (tc tn : Nat) (VS : List Is), d = n - r ∧ r ≤ n ∧ rv = .int .i64 r ∧ ov = .slice ta tn tc ∧ Hid (tn = VS.length ∧ Chg [] w2 wr ∧ wr.heap[pb]? = some (rowB ((List.range n).map (Cp.roundsR G r).1)) ∧ OwnIs w2.heap.size wr ta tc VS ∧ VS.map (·.2.2) = Cp.intsG (Cp.roundsR G r).2 ∧ VS.length ≤ r))
  case atStart => exact ⟨0, none, 0, 0, [], rfl, Nat.zero_le _, rfl, rfl, Lib.hid ⟨rfl, HB.out.2.1, HB.out.1, OwnIs.nil _ _, rfl, Nat.le_refl _⟩⟩
  case round =>
   obtain ⟨r, ta, tc, tn, VS, rfl, hr, rfl, rfl, hin⟩ := hrel
   obtain ⟨wq, rfl⟩ : ∃ wz, wz = wr := ⟨_, rfl⟩
   by_cases hlt : r < n
   ·obtain ⟨put, hput⟩ : ∃ put, put = (Cp.roundsR G r).1 := ⟨_, rfl⟩
    have HP := Lib.hid hput
    rw [← hput] at hin
    clear hput
    go_wp2_with fail
    go_loopg [7] n (fun d av wr => ∃ a : Nat, d = n - a ∧ a ≤ n ∧ av = .int .i64 a ∧ Hid ((∀ j, j < a → Cp.openR G put j = false) ∧ Chg [] wq wr))
    case atStart => exact ⟨0, rfl, Nat.zero_le _, rfl, Lib.hid ⟨fun j h => absurd h (Nat.not_lt_zero _), Chg.refl _ _⟩⟩
    case round =>
     obtain ⟨a, rfl, ha, rfl, hin2⟩ := hrel
     obtain ⟨ws, rfl⟩ : ∃ wz, wz = wr := ⟨_, rfl⟩
     by_cases hlt2 : a < n
     ·have hop := refOpen_any w1 ws n G HG.out.2.2.1 hn64 oa oc gs (HM.out.chg0 (hin.out.2.1.tr hin2.out.2)) pb n (by omega) put (hin2.out.2.heap hin.out.2.2.1 (by simp)) a hlt2
      obtain ⟨ov, hov⟩ : ∃ ov, ov = Cp.openR G put a := ⟨_, rfl⟩
      rw [← hov] at hop
      have HO := Lib.hid (And.intro hop hov)
      clear hop hov
      go_wp2_with fail
      refine HO.out.1.mono ?_
      rintro e wt ⟨rfl, hct⟩
      have HT := Lib.hid hct
      clear hct
      cases ov with
      | false =>
       go_wp2_with fail
       go_roundg (n - (a + 1))
       case measure => omega
       case rel => exact ⟨a + 1, rfl, by omega, by go_num, Lib.hid ⟨fun j hj => by
        rcases Nat.lt_or_ge j a with h | h
        ·exact hin2.out.1 j h
        ·obtain rfl : j = a := by omega
         exact HO.out.2.symm, hin2.out.2.tr HT.out⟩⟩
      | true =>
       have hne : ¬ (a : Int) = (n : Int) := by omega
       have hne2 : ((a : Int) == (n : Int)) = false := by simpa using hne
       obtain ⟨B, hBB⟩ : ∃ B, B = wt.heap.size := ⟨_, rfl⟩
       have hO5 := hin.out.2.2.2.1.chg0 (hin2.out.2.tr HT.out)
       have hltV := hO5.lt
       have hp5 := (hin2.out.2.tr HT.out).heap hin.out.2.2.1 (by simp)
       have hc5 := (hin.out.2.1.tr hin2.out.2).tr HT.out
       have hta : ∀ k, (Value.slice ta VS.length tc).ownBlock = some k → k < wt.heap.size := fun k hk => (row_beyond hO5.row hk).2.1
       have H5 := Lib.hid (And.intro hO5 (And.intro hltV (And.intro hp5 (And.intro hc5 (And.intro hta (And.intro hBB (lt_of_block hp5)))))))
       clear hO5 hltV hp5 hc5 hta hBB
       go_wp2_with fail
       go_loopg [9, 8] n (fun d kv qv wr => ∃ (k : Nat) (qa : Option Addr) (qc qn : Nat), d = n - k ∧ k ≤ n ∧ kv = .int .i64 k ∧ qv = .slice qa qn qc ∧ Hid (qn = (partK G n a k).length ∧ FreshInts B wr qa qc (natI (partK G n a k)) ∧ wr.heap[pb]? = some (rowB ((List.range n).map (putK G n a put k))) ∧ Chg [pb] wt wr))
       case atStart => exact ⟨0, none, 0, 0, rfl, Nat.zero_le _, rfl, rfl, Lib.hid ⟨rfl, World.ownsRow_nil _ _ _ _, by rw [putK_zero]; exact H5.out.2.2.1, Chg.refl _ _⟩⟩
       case round =>
        obtain ⟨k, qa, qc, qn, rfl, hk, rfl, rfl, hin3⟩ := hrel
        obtain ⟨wu, rfl⟩ : ∃ wz, wz = wr := ⟨_, rfl⟩
        have hc2u : Chg [] w2 wu := H5.out.2.2.2.1.trans hin3.out.2.2.2 (fun j hj => .inr (by rw [List.mem_singleton.1 hj]; have := HB.out.2.2; omega))
        by_cases hlt3 : k < n
        ·have hMu := HM.out.chg0 hc2u
         obtain ⟨go, g1, rfl, -, -, xo1, ho1, ho2, -, hg1⟩ := hMu.read hlt2
         obtain ⟨go', g2, ego, -, -, xo2, -, -, -, hg2⟩ := hMu.read hlt3
         obtain rfl : go = go' := by simpa using ego
         have xv1 := rowB_getF hg1 hlt3
         have xv2 := rowB_getF hg2 hlt2
         have xp1 := rowB_getF hin3.out.2.2.1 hlt3
         have xpf := rowB_free hin3.out.2.2.1 k
         obtain ⟨c1, hc1⟩ : ∃ c, c = Cp.wB G n a k := ⟨_, rfl⟩
         obtain ⟨c2, hc2⟩ : ∃ c, c = Cp.wB G n k a := ⟨_, rfl⟩
         rw [← hc1] at xv1
         rw [← hc2] at xv2
         have htog : togB G n a k = (c1 && c2) := by unfold togB; rw [hc1, hc2]
         have HC := Lib.hid htog
         clear hMu hg1 hg2 hc1 hc2 htog ego
         have HN : Hid ((c1 && c2) = false → ∃ (k' : Nat) (qa' : Option Addr) (qc' qn' : Nat), n - (k + 1) = n - k' ∧ k' ≤ n ∧ Value.int .i64 ((k : Int) + 1) = .int .i64 k' ∧ Value.slice qa qn qc = .slice qa' qn' qc' ∧ Hid (qn' = (partK G n a k').length ∧ FreshInts B wu qa' qc' (natI (partK G n a k')) ∧ wu.heap[pb]? = some (rowB ((List.range n).map (putK G n a put k'))) ∧ Chg [pb] wt wu)) := Lib.hid (fun hf => by
          rw [hf] at HC
          exact ⟨k + 1, qa, qc, qn, rfl, by omega, by go_num, rfl, by rw [partK_no HC.out, putK_no put HC.out]; exact hin3⟩)
         cases c1 with
         | false =>
          go_wp2_with fail
          go_roundg (n - (k + 1))
          case measure => omega
          case rel => exact HN.out rfl
         | true =>
          cases c2 with
          | false =>
           go_wp2_with fail
           go_roundg (n - (k + 1))
           case measure => omega
           case rel => exact HN.out rfl
          | true =>
           have hpl := partK_len G n a k
           have hrow3 := hin3.out.2.1
           unfold FreshInts at hrow3
           rw [natI_len, ← hin3.out.1] at hrow3
           rw [← hin3.out.1] at hpl
           obtain ⟨i0, hin0, hz0, hz1, hz2⟩ := info_parts Tryz.infoInt
           have hcA := (Chg.refl [] wu).alloc (Obj.cells #[.int .i64 k] 3)
           have hrowA := hcA.row hrow3 (fun _ _ => by simp)
           have hb1 : ∀ u ∈ [Value.int .i64 (k : Int)], u.oneCell' = true := by simp [Value.oneCell']
           have hb2 : qn + 1 ≤ maxLen ∧ (qn + 1) * 8 ≤ 140737488355328 := by simp only [maxLen]; omega
           have hnew := cells_at (w := wu.alloc (Obj.cells #[.int .i64 k] 3)) (heap_alloc_same _ _)
           have hszA : B ≤ (wu.alloc (Obj.cells #[.int .i64 k] 3)).heap.size := by have := H5.out.2.2.2.2.2.1; have := hin3.out.2.2.2.size; have := hcA.size; omega
           have hpA := hcA.heap hin3.out.2.2.1 (by simp)
           have hpne := ownsRow_ne hrow3 hin3.out.2.2.1 (by decide)
           have H8 := Lib.hid (And.intro hrowA (And.intro hb1 (And.intro hb2 (And.intro hnew (And.intro hszA (And.intro hcA (And.intro hpA hpne)))))))
           clear hrowA hb1 hb2 hnew hszA hcA hpA hpne hrow3 xp1 xpf
           go_wp2_with (at_builtin; refine wpList_append_own_at _ rfl _ _ 34 rfl B 3 i0 _ 1 8 Tryz.underlying34 hin0 hz0 hz1 hz2 rfl (by decide) (.slice qa qn qc) qn ((natI (partK G n a k)).map (Value.int .i64)) rfl H8.out.1 ⟨wu.heap.size, 0, none⟩ 1 1 [.int .i64 k] rfl rfl H8.out.2.2.2.1 H8.out.2.1 H8.out.2.2.1.1 H8.out.2.2.1.2 H8.out.2.2.2.2.1 ?_; intro v' w8 hr5 hg5 hn5 hb5; obtain ⟨a5, c5, rfl⟩ := ownsRow_slice hr5; have hh8 := grown_heap hg5 H8.out.2.2.2.2.2.2.1 H8.out.2.2.2.2.2.2.2; have xp8 := rowB_getF hh8 hlt3; have xf8 := rowB_free hh8 k; have HW := Lib.hid (And.intro hr5 (And.intro hg5 hh8)); clear hr5 hg5 hn5 hb5 hh8)
           go_roundg (n - (k + 1))
           case measure => omega
           case rel =>
            have hcs := (Chg.refl [pb] w8).setCell (p := ⟨pb, k, none⟩) (.inl (by simp)) (.bool true)
            refine ⟨k + 1, a5, c5, qn + 1, rfl, by omega, by go_num, rfl, Lib.hid ⟨?_, ?_, ?_, ?_⟩⟩
            ·have := congrArg List.length (partK_yes HC.out)
             rw [natI_len, List.length_append, natI_len, ← hin3.out.1] at this
             exact this.symm
            ·rw [partK_yes HC.out]
             unfold FreshInts
             rw [List.length_append, natI_len, ← hin3.out.1, List.map_append]
             exact hcs.row HW.out.1 (fun j hj hm => by
              rw [List.mem_singleton.1 hm] at hj
              exact ownsRow_ne HW.out.1 HW.out.2.2 (by decide) hj)
            ·rw [putK_yes put HC.out]
             exact rowB_putF HW.out.2.2 true
            ·refine ((hin3.out.2.2.2.tr0 H8.out.2.2.2.2.2.1).grown HW.out.2.1 (fun j hj => .inr ?_)).tr hcs
             have := (row_beyond H8.out.1 hj).1
             have := H5.out.2.2.2.2.2.1
             omega
        ·obtain rfl : n = k := by omega
         have hO8 := H5.out.1.keepQ hin3.out.2.2.2 (fun j hj e => by
          rw [List.mem_singleton.1 hj] at e
          exact ownsRow_ne H5.out.1.row H5.out.2.2.1 (by decide) e) (fun j hj p hp e => by
          rw [List.mem_singleton.1 hj] at e
          exact ownsRow_ne (H5.out.1.each p hp) H5.out.2.2.1 (by decide) e)
         have hvr := hin.out.2.2.2.2.2
         obtain ⟨iN, hiN, hz0, hz1, hz2⟩ := info_parts Tryz.infoInts
         have hcA := (Chg.refl [] wu).alloc (Obj.cells #[.slice qa qn qc] 34)
         have hOA := hO8.chg0 hcA
         have hfA := hcA.row hin3.out.2.1 (fun _ _ => by simp)
         have hrowA := hOA.row
         rw [← hin.out.1] at hrowA hvr
         have hb1 : ∀ u ∈ [Value.slice qa qn qc], u.oneCell' = true := by simp [Value.oneCell']
         have hb2 : tn + 1 ≤ maxLen ∧ (tn + 1) * 24 ≤ 140737488355328 := by simp only [maxLen]; omega
         have hnew := cells_at (w := wu.alloc (Obj.cells #[.slice qa qn qc] 34)) (heap_alloc_same _ _)
         have hszA : w2.heap.size ≤ (wu.alloc (Obj.cells #[.slice qa qn qc] 34)).heap.size := (hc2u.tr hcA).size
         have hpA := hcA.heap hin3.out.2.2.1 (by simp)
         have hpne := ownsRow_ne hrowA hpA (by decide)
         have H8 := Lib.hid (And.intro hrowA (And.intro hb1 (And.intro hb2 (And.intro hnew (And.intro hszA (And.intro hcA (And.intro hpA (And.intro hpne (And.intro hOA hfA)))))))))
         clear hrowA hb1 hb2 hnew hszA hcA hpA hpne hOA hfA hO8 hvr
         go_wp2_with (at_builtin; refine wpList_append_own_at _ rfl _ _ 36 rfl w2.heap.size 34 iN _ 1 24 Tryz.underlying36 hiN hz0 hz1 hz2 rfl (by decide) (.slice ta tn tc) tn (VS.map Is.cell) rfl H8.out.1 ⟨wu.heap.size, 0, none⟩ 1 1 [.slice qa qn qc] rfl rfl H8.out.2.2.2.1 H8.out.2.1 H8.out.2.2.1.1 H8.out.2.2.1.2 H8.out.2.2.2.2.1 ?_; intro v' w8 hr5 hg5 hn5 hb5; obtain ⟨a5, c5, rfl⟩ := ownsRow_slice hr5; have HW := Lib.hid (And.intro hr5 hg5); clear hr5 hg5 hn5 hb5)
         go_roundg (n - (r + 1))
         case measure => omega
         case rel =>
          have hpk : Cp.pickR G (Cp.roundsR G r).1 = some a := by
           refine Cp.find_least (by rw [← HG.out.2.2.1]; exact hlt2) ?_ (fun j hj => ?_)
           ·rw [← HP.out]; exact HO.out.2.symm
           ·rw [← HP.out]; exact hin2.out.1 j hj
          have hrs : Cp.roundsR G (r + 1) = (Cp.putR put (Cp.classR G a), (Cp.roundsR G r).2 ++ [Cp.classR G a]) := by
           show Cp.roundR G (Cp.roundsR G r) = _
           unfold Cp.roundR
           rw [hpk, HP.out]
          have hcg : Chg [] w2 w8 := (hc2u.tr H8.out.2.2.2.2.2.1).grown HW.out.2 (fun j hj => .inr (row_beyond H8.out.1 hj).1)
          have hgr := HW.out.2
          rw [hin.out.1] at hgr
          have hr8 := HW.out.1
          rw [hin.out.1] at hr8
          have hqn : qn = (natI (partK G n a n)).length := by rw [natI_len]; exact hin3.out.1
          have hr9 : w8.ownsRow w2.heap.size 34 1 (.slice a5 (VS.length + 1) c5) (VS.length + 1) (VS.map Is.cell ++ [Is.cell (qa, qc, natI (partK G n a n))]) := by
           rw [Is.cell]; dsimp only; rw [← hqn]; exact hr8
          refine ⟨r + 1, a5, c5, tn + 1, VS ++ [(qa, qc, natI (partK G n a n))], rfl, by omega, by go_num, rfl, Lib.hid ⟨?_, hcg, ?_, ?_, ?_, ?_⟩⟩
          ·rw [List.length_append, hin.out.1]; rfl
          ·rw [hrs]
           refine rowB_congr (grown_heap HW.out.2 H8.out.2.2.2.2.2.2.1 H8.out.2.2.2.2.2.2.2.1) (fun j hj => putK_all HG.out.2.2.1 put hj)
          ·exact H8.out.2.2.2.2.2.2.2.2.1.snoc (p := (qa, qc, natI (partK G n a n))) (B' := B) (by have := H5.out.2.2.2.2.2.1; have := H5.out.2.2.2.1.size; omega) H8.out.2.2.2.2.2.2.2.2.2 (fun q hq j hj => by have := H5.out.2.1 q hq j hj; have := H5.out.2.2.2.2.2.1; omega) hr9 hgr
          ·rw [List.map_append, hin.out.2.2.2.2.1, hrs]
           unfold Cp.intsG
           rw [List.map_append, partK_all HG.out.2.2.1 a]; rfl
          ·rw [List.length_append]; have := hin.out.2.2.2.2.2; show VS.length + 1 ≤ r + 1; omega
     ·obtain rfl : n = a := by omega
      have hee : ((n : Int) == (n : Int)) = true := by simp
      go_wp2_with fail
      go_ret
      have hnone : Cp.pickR G (Cp.roundsR G r).1 = none := by
       unfold Cp.pickR
       rw [List.find?_eq_none]
       intro j hj
       rw [← HG.out.2.2.1] at hj
       rw [← HP.out, hin2.out.1 j (List.mem_range.1 hj)]; simp
      have hst := Cp.rounds_stop hnone (n - r)
      rw [show r + (n - r) = n by omega] at hst
      refine ⟨ta, tc, VS, by rw [← hin.out.1]; rfl, (hin.out.2.2.2.1.chg0 hin2.out.2).base (H1.out.tr HM.out.chg).size, by rw [hin.out.2.2.2.2.1, HG.out.2.2.2, hst], ((H1.out.tr HM.out.chg).tr hin.out.2.1).tr hin2.out.2⟩
   ·obtain rfl : n = r := by omega
    go_wp2_with fail
    go_ret
    exact ⟨ta, tc, VS, by rw [← hin.out.1]; rfl, hin.out.2.2.2.1.base (H1.out.tr HM.out.chg).size, by rw [hin.out.2.2.2.2.1, HG.out.2.2.2], (H1.out.tr HM.out.chg).tr hin.out.2.1⟩
end Go.Proofs.YtlklmpjakeedcaaGreatDoor

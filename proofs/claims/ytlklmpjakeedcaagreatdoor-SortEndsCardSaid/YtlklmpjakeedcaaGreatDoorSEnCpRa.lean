/-
 Which numbers each one of a right graph leads on to, by the document.
 Conditions: the rows read as data.
-/
import Derived.Test.YtlklmpjakeedcaaGreatDoorSEnCpMb
import Derived.Test.YtlklmpjakeedcaaGreatDoorSEnCpE
import Derived.Test.YtlklmpjakeedcaaGreatDoorSEnCpV
set_option linter.unusedVariables false
set_option linter.unusedSimpArgs false
set_option linter.unnecessarySimpa false
namespace Go.Proofs.YtlklmpjakeedcaaGreatDoor
open Go.RowKit Go.MapKept Go.Shelf

def rowF (G : List (List Nat)) (i c : Nat) : Nat → Bool := fun j => j == i || ((Cp.row G i).take c).contains j
theorem rowF_zero (G : List (List Nat)) (i : Nat) : Cp.upd (fun _ => false) i true = rowF G i 0 := by
 funext j
 unfold Cp.upd rowF
 by_cases h : j = i <;> simp [h]
theorem rowF_succ {G : List (List Nat)} {i c : Nat} (hc : c < (Cp.row G i).length) : rowF G i (c + 1) = Cp.upd (rowF G i c) (Cp.row G i)[c] true := by
 funext j
 unfold Cp.upd rowF
 rw [List.take_succ_eq_append_getElem hc]
 obtain ⟨y, hy⟩ : ∃ y, y = (Cp.row G i)[c] := ⟨_, rfl⟩
 rw [← hy]
 by_cases h : j = y <;> simp [h]
theorem rowF_all (G : List (List Nat)) (i : Nat) : rowF G i (Cp.row G i).length = Cp.wB G 0 i := by
 funext j
 unfold rowF
 rw [List.take_length]; rfl
/-- Within the m-th pass: rows ahead of i are done, of row i so many. -/
def matF (G : List (List Nat)) (m i k : Nat) : Nat → Nat → Bool := fun i' j => if i' < i ∨ (i' = i ∧ j < k) then Cp.wB G (m + 1) i' j else Cp.wB G m i' j
theorem matF_at (G : List (List Nat)) {m i k j : Nat} (h : k ≤ j) : matF G m i k i j = Cp.wB G m i j := by
 unfold matF; rw [if_neg (by omega)]
theorem matF_via (G : List (List Nat)) (m i k : Nat) : matF G m i k i m = Cp.wB G m i m := by
 unfold matF; split
 ·exact Cp.wB_in m i
 ·rfl
theorem matF_mid (G : List (List Nat)) (m i k j : Nat) : matF G m i k m j = Cp.wB G m m j := by
 unfold matF; split
 ·exact Cp.wB_out m j
 ·rfl
theorem matF_put {G : List (List Nat)} {m i k : Nat} (h : Cp.wB G m i m = true) : Cp.upd (matF G m i k) i (Cp.upd (matF G m i k i) k (Cp.wB G m i k || Cp.wB G m m k)) = matF G m i (k + 1) := by
 funext i' j
 by_cases e : i' = i
 ·subst e
  rw [Cp.upd_same]
  by_cases e2 : j = k
  ·subst e2
   rw [Cp.upd_same]
   unfold matF
   rw [if_pos (.inr ⟨rfl, by omega⟩), Cp.wB_succ, h, Bool.true_and]
  ·rw [Cp.upd_other _ _ e2]
   unfold matF
   by_cases h3 : j < k
   ·rw [if_pos (.inr ⟨rfl, h3⟩), if_pos (.inr ⟨rfl, by omega⟩)]
   ·rw [if_neg (by omega), if_neg (by omega)]
 ·rw [Cp.upd_other _ _ e]
  unfold matF
  by_cases h3 : i' < i
  ·rw [if_pos (.inl h3), if_pos (.inl h3)]
  ·rw [if_neg (by omega), if_neg (by omega)]
def LeadsM (w : World) (n : Nat) (G : List (List Nat)) (e : Ending) (w' : World) : Prop := ∃ (oa : Option Addr) (oc : Nat) (gs : List Nat), e = .returned (.slice oa n oc) ∧ MatB w n n oa oc gs (Cp.wB G n) w'

set_option maxRecDepth 100000 in
set_option maxHeartbeats 16000000 in
theorem refLeads_any (w : World) (ga : Option Addr) (n gc : Nat) (VG : List Is) (G : List (List Nat)) (hG : Cp.RG G) (hn : n = G.length) (hVG : VG.map (·.2.2) = Cp.intsG G) (hrows : IntRows w ga VG) (hgc : n ≤ gc ∧ gc ≤ 9223372036854775807) :
  Calls Tryz.prog 120 #[.slice ga n gc] w (LeadsM w n G) := by
 have hn64 : n ≤ 64 := by rw [hn]; exact hG.few
 have hmk := fun W => run_falses n (by omega) W
 have H := Lib.hid (And.intro hG (And.intro hn (And.intro hVG hrows)))
 clear hG hn hVG hrows
 go_enter Tryz.func120, Tryz.ntmps120
 go_wp2_with fail
 go_loopg [4, 3] n (fun d iv ov wr => ∃ (i : Nat) (oa : Option Addr) (oc : Nat) (gs : List Nat), d = n - i ∧ i ≤ n ∧ iv = .int .i64 i ∧ ov = .slice oa i oc ∧ Hid (MatB w n i oa oc gs (Cp.wB G 0) wr))
 case atStart => exact ⟨0, none, 0, [], rfl, Nat.zero_le _, rfl, rfl, Lib.hid (MatB.nil w n _)⟩
 case round =>
  obtain ⟨i, oa, oc, gs, rfl, hi, rfl, rfl, hin⟩ := hrel
  obtain ⟨wq, rfl⟩ : ∃ wz, wz = wr := ⟨_, rfl⟩
  by_cases hlt : i < n
  ·have hB := heap_alloc_same wq (rowB (List.replicate n false))
   rw [bsOf_false n] at hB
   have xB := rowB_getF hB hlt
   have fB := rowB_free hB i
   rw [← bsOf_false n] at xB fB
   have HB := Lib.hid hB
   clear hB
   go_wp2_with fail
   clear xB fB
   obtain ⟨g, hg⟩ : ∃ g, g = wq.heap.size := ⟨_, rfl⟩
   rw [← hg]
   obtain ⟨wa, ea⟩ : ∃ wa, wa = (wq.alloc (rowB (List.replicate n false))).setCell ⟨g, i, none⟩ (.bool true) := ⟨_, rfl⟩
   rw [← ea]
   have hca : Chg [] wq wa := by
    rw [ea]
    exact ((Chg.refl [] wq).alloc _).setCell (p := ⟨g, i, none⟩) (.inr (by show wq.heap.size ≤ g; omega)) _
   have hga : wa.heap[g]? = some (rowB ((List.range n).map (rowF G i 0))) := by
    have := HB.out
    rw [← hg, ← bsOf_false n] at this
    rw [ea, ← rowF_zero]
    exact rowB_putF (f := fun _ => false) (by rw [this, bsOf_false]; rfl) true
   obtain ⟨b, o, ra, rc, rfl, k1, k2, k3⟩ := graph_row H.out.2.2.1 H.out.2.2.2 (c := i) (by rw [← H.out.2.1]; exact hlt)
   obtain ⟨q, hq⟩ : ∃ q, q = (Cp.row G i).length := ⟨_, rfl⟩
   rw [← hq] at k1 k3
   have HA := Lib.hid (And.intro hca (And.intro hga (And.intro k1 (And.intro k2 (And.intro hq hg)))))
   clear hca hga k1 k2 hq ea hg
   go_loopg [6] q (fun d cv wr => ∃ c : Nat, d = q - c ∧ c ≤ q ∧ cv = .int .i64 c ∧ Hid (wr.heap[g]? = some (rowB ((List.range n).map (rowF G i c))) ∧ Chg [] wq wr))
   case atStart => exact ⟨0, rfl, Nat.zero_le _, rfl, Lib.hid ⟨HA.out.2.1, HA.out.1⟩⟩
   case round =>
    obtain ⟨c, rfl, hc, rfl, hin2⟩ := hrel
    obtain ⟨ws, rfl⟩ : ∃ wz, wz = wr := ⟨_, rfl⟩
    have k1 := (hin.out.chg.tr hin2.out.2).kp.2 _ _ HA.out.2.2.1
    by_cases hlt2 : c < q
    ·have hcr : c < (Cp.row G i).length := by rw [← HA.out.2.2.2.2.1]; exact hlt2
     obtain ⟨bz, oz, rfl, hz⟩ := (HA.out.2.2.2.1.keep (hin.out.chg.tr hin2.out.2).kp) c (by rw [natI_len]; exact hcr)
     obtain ⟨y, hy⟩ : ∃ y, y = (Cp.row G i)[c] := ⟨_, rfl⟩
     have hz' : ws.cell? ⟨bz, oz + c, none⟩ = some (.int .i64 (y : Nat)) := by rw [hz]; simp [natI, hy]
     have hyn : y < n := by rw [H.out.2.1, hy]; exact H.out.1.lt i _ (List.getElem_mem hcr)
     have xB := rowB_getF hin2.out.1 hyn
     have fB := rowB_free hin2.out.1 y
     have HY := Lib.hid hy
     clear hz hy
     go_wp2_with fail
     go_roundg (q - (c + 1))
     case measure => omega
     case rel =>
      refine ⟨c + 1, rfl, by omega, by go_num, Lib.hid ⟨?_, hin2.out.2.setCell (p := ⟨g, y, none⟩) (.inr (by have := HA.out.2.2.2.2.2; show wq.heap.size ≤ g; omega)) _⟩⟩
      rw [rowF_succ (by rw [← HA.out.2.2.2.2.1]; exact hlt2), ← HY.out]
      exact rowB_putF hin2.out.1 true
    ·obtain rfl : c = q := by omega
     obtain ⟨iN, hiN, hz0, hz1, hz2⟩ := info_parts Tryz.infoBools
     have hcA := (Chg.refl [] ws).alloc (Obj.cells #[.slice (some ⟨g, 0, none⟩) n n] 108)
     have hrowA := hcA.row (hin2.out.2.row hin.out.row (fun _ _ => by simp)) (fun _ _ => by simp)
     have hb1 : ∀ u ∈ [Value.slice (some ⟨g, 0, none⟩) n n], u.oneCell' = true := by simp [Value.oneCell']
     have hb2 : i + 1 ≤ maxLen ∧ (i + 1) * 24 ≤ 140737488355328 := by simp only [maxLen]; omega
     have hnew := cells_at (w := ws.alloc (Obj.cells #[.slice (some ⟨g, 0, none⟩) n n] 108)) (heap_alloc_same _ _)
     have hszA : w.heap.size ≤ (ws.alloc (Obj.cells #[.slice (some ⟨g, 0, none⟩) n n] 108)).heap.size := ((hin.out.chg.tr hin2.out.2).tr hcA).size
     have H8 := Lib.hid (And.intro hrowA (And.intro hb1 (And.intro hb2 (And.intro hnew (And.intro hszA hcA)))))
     clear hrowA hb1 hb2 hnew hszA hcA
     go_wp2_with (at_builtin; refine wpList_append_own_at _ rfl _ _ 128 rfl w.heap.size 108 iN _ 1 24 Tryz.underlying128 hiN hz0 hz1 hz2 rfl (by decide) (.slice oa i oc) i (gs.map (bCell n)) rfl H8.out.1 ⟨ws.heap.size, 0, none⟩ 1 1 [.slice (some ⟨g, 0, none⟩) n n] rfl rfl H8.out.2.2.2.1 H8.out.2.1 H8.out.2.2.1.1 H8.out.2.2.1.2 H8.out.2.2.2.2.1 ?_; intro v' w8 hr5 hg5 hn5 hb5; obtain ⟨a5, c5, rfl⟩ := ownsRow_slice hr5; have HW := Lib.hid (And.intro hr5 (And.intro hg5 hb5)); clear hr5 hg5 hn5 hb5)
     go_roundg (n - (i + 1))
     case measure => omega
     case rel =>
      have hcg : Chg (Value.slice oa i oc).ownBlock.toList ws w8 := (H8.out.2.2.2.2.2.any).tr ((Chg.refl _ _).grown HW.out.2.1 (fun j hj => .inl (by rw [hj]; simp)))
      have hrs := hin2.out.2.row hin.out.row (fun _ _ => by simp)
      have hlow : ∀ j, j ∈ (Value.slice oa i oc).ownBlock.toList → w.heap.size ≤ j := fun j hj => (row_beyond hrs (Option.mem_toList.1 hj)).1
      have hfr : ∀ {j : Nat} {bs : List Bool}, ws.heap[j]? = some (rowB bs) → w8.heap[j]? = some (rowB bs) := fun hj => hcg.heap hj (fun hm => ownsRow_ne hrs hj (by decide) (Option.mem_toList.1 hm))
      refine ⟨i + 1, a5, c5, gs ++ [g], rfl, by omega, by go_num, rfl, Lib.hid ⟨(hin.out.chg.tr hin2.out.2).trans hcg (fun j hj => .inr (hlow j hj)), ?_, ?_, fun j hj => ?_, ?_⟩⟩
      ·rw [List.length_append, hin.out.len]; rfl
      ·rw [List.nodup_append]
       refine ⟨hin.out.nodup, by simp, fun x hx y hy e => ?_⟩
       obtain ⟨j, hj, rfl⟩ := List.getElem_of_mem hx
       have h1 := lt_of_block (hin.out.blk j hj).2
       rw [List.mem_singleton.1 hy] at e
       have := HA.out.2.2.2.2.2
       omega
      ·rw [List.length_append] at hj
       have hj' : j < gs.length + 1 := hj
       by_cases e : j < gs.length
       ·rw [List.getElem_append_left e]
        exact ⟨(hin.out.blk j e).1, hfr (hin2.out.2.heap (hin.out.blk j e).2 (by simp))⟩
       ·have e2 : j = i := by have := hin.out.len; omega
        subst e2
        rw [List.getElem_append_right (by omega)]
        simp only [List.getElem_singleton]
        have hgq := HA.out.2.2.2.2.2
        refine ⟨by have := hin.out.chg.size; omega, ?_⟩
        rw [← rowF_all, ← HA.out.2.2.2.2.1]
        exact hfr hin2.out.1
      ·have := HW.out.1
       rw [List.map_append, List.map_singleton]
       exact this
  ·obtain rfl : n = i := by omega
   go_wp2_with fail
   go_loopg [7] n (fun d mv wr => ∃ m : Nat, d = n - m ∧ m ≤ n ∧ mv = .int .i64 m ∧ Hid (MatB w n n oa oc gs (Cp.wB G m) wr))
   case atStart => exact ⟨0, rfl, Nat.zero_le _, rfl, hin⟩
   case round =>
    obtain ⟨m, rfl, hm, rfl, hin2⟩ := hrel
    obtain ⟨ws, rfl⟩ : ∃ wz, wz = wr := ⟨_, rfl⟩
    by_cases hlt2 : m < n
    ·go_wp2_with fail
     go_loopg [8] n (fun d iv wr => ∃ i : Nat, d = n - i ∧ i ≤ n ∧ iv = .int .i64 i ∧ Hid (MatB w n n oa oc gs (matF G m i 0) wr))
     case atStart => exact ⟨0, rfl, Nat.zero_le _, rfl, Lib.hid (hin2.out.congr (fun i j _ _ => by unfold matF; rw [if_neg (by omega)]))⟩
     case round =>
      obtain ⟨i, rfl, hi, rfl, hin3⟩ := hrel
      obtain ⟨wt, rfl⟩ : ∃ wz, wz = wr := ⟨_, rfl⟩
      by_cases hlt3 : i < n
      ·go_wp2_with fail
       go_loopg [9] n (fun d kv wr => ∃ k : Nat, d = n - k ∧ k ≤ n ∧ kv = .int .i64 k ∧ Hid (MatB w n n oa oc gs (matF G m i k) wr))
       case atStart => exact ⟨0, rfl, Nat.zero_le _, rfl, hin3⟩
       case round =>
        obtain ⟨k, rfl, hk, rfl, hin4⟩ := hrel
        obtain ⟨wu, rfl⟩ : ∃ wz, wz = wr := ⟨_, rfl⟩
        have hend : ∀ j, matF G m i n i j = matF G m (i + 1) 0 i j ∨ n ≤ j := fun j => by
         rcases Nat.lt_or_ge j n with h | h
         ·refine .inl ?_
          unfold matF
          rw [if_pos (.inr ⟨rfl, h⟩), if_pos (.inl (by omega))]
         ·exact .inr h
        by_cases hlt4 : k < n
        ·obtain ⟨go, g, rfl, hg, -, xo, ho1, ho2, -, hgb⟩ := hin4.out.read hlt3
         have xv := rowB_getF hgb hlt2
         rw [matF_via] at xv
         obtain ⟨c, hc⟩ : ∃ c, c = Cp.wB G m i m := ⟨_, rfl⟩
         rw [← hc] at xv
         have HC := Lib.hid (And.intro hc (And.intro hg hgb))
         clear hc hg hgb hend
         cases c with
         | false =>
          go_wp2_with fail
          go_roundg (n - (i + 1))
          case measure => omega
          case rel =>
           refine ⟨i + 1, rfl, by omega, by go_num, Lib.hid (hin4.out.congr (fun i' j hi' hj => ?_))⟩
           unfold matF
           by_cases e : i' = i
           ·subst e
            rw [if_pos (show i' < i' + 1 ∨ _ from .inl (by omega)), Cp.wB_succ, ← HC.out.1]
            split <;> simp
           ·by_cases h3 : i' < i
            ·rw [if_pos (.inl h3), if_pos (.inl (by omega))]
            ·rw [if_neg (by omega), if_neg (by omega)]
         | true =>
          obtain ⟨go', g', ego, hg', -, xo2, -, -, -, hgb'⟩ := hin4.out.read hlt2
          obtain rfl : go = go' := by simpa using ego
          have xk1 := rowB_getF HC.out.2.2 hlt4
          have xk2 := rowB_getF hgb' hlt4
          rw [matF_at G (Nat.le_refl k)] at xk1
          rw [matF_mid] at xk2
          obtain ⟨b1, hb1⟩ : ∃ b, b = Cp.wB G m i k := ⟨_, rfl⟩
          obtain ⟨b2, hb2⟩ : ∃ b, b = Cp.wB G m m k := ⟨_, rfl⟩
          rw [← hb1] at xk1
          rw [← hb2] at xk2
          have HD := Lib.hid (And.intro hb1 (And.intro hb2 (And.intro trivial xk1)))
          clear hb1 hb2 hg' hgb' ego
          cases b1 with
          | true =>
           have fz : wu.frozen? ⟨g, k, none⟩ = false := rowB_free HC.out.2.2 k
           go_wp2_with fail
           go_region
           clear xo xv xo2 xk1 xk2 fz
           obtain ⟨w6, hw⟩ : ∃ w6, w6 = (wu.setCell ⟨g, k, none⟩ (.bool true)).drew := ⟨_, rfl⟩
           rw [← hw]
           have hput := (hin4.out.put hlt3 HC.out.2.1 k (Cp.wB G m i k || Cp.wB G m m k)).1
           rw [matF_put HC.out.1.symm, ← HD.out.1, ← HD.out.2.1] at hput
           simp only [Bool.true_or, Bool.false_or] at hput
           replace hput := hput.chg0 (Chg.refl [] _).drew
           rw [← hw] at hput
           have HP := Lib.hid hput
           clear hput hw
           go_wp2_with fail
           go_roundg (n - (k + 1))
           case measure => omega
           case rel => exact ⟨k + 1, rfl, by omega, by go_num, HP⟩
          | false =>
           have fz : wu.frozen? ⟨g, k, none⟩ = false := rowB_free HC.out.2.2 k
           go_wp2_with fail
           go_region
           clear xo xv xo2 xk1 xk2 fz
           obtain ⟨w6, hw⟩ : ∃ w6, w6 = (wu.setCell ⟨g, k, none⟩ (.bool b2)).drew := ⟨_, rfl⟩
           rw [← hw]
           have hput := (hin4.out.put hlt3 HC.out.2.1 k (Cp.wB G m i k || Cp.wB G m m k)).1
           rw [matF_put HC.out.1.symm, ← HD.out.1, ← HD.out.2.1] at hput
           simp only [Bool.true_or, Bool.false_or] at hput
           replace hput := hput.chg0 (Chg.refl [] _).drew
           rw [← hw] at hput
           have HP := Lib.hid hput
           clear hput hw
           go_wp2_with fail
           go_roundg (n - (k + 1))
           case measure => omega
           case rel => exact ⟨k + 1, rfl, by omega, by go_num, HP⟩
        ·obtain rfl : n = k := by omega
         go_wp2_with fail
         go_roundg (n - (i + 1))
         case measure => omega
         case rel =>
          refine ⟨i + 1, rfl, by omega, by go_num, Lib.hid (hin4.out.congr (fun i' j hi' hj => ?_))⟩
          by_cases e : i' = i
          ·subst e
           exact (hend j).resolve_right (by omega)
          ·unfold matF
           by_cases h3 : i' < i
           ·rw [if_pos (.inl h3), if_pos (.inl (by omega))]
           ·rw [if_neg (by omega), if_neg (by omega)]
      ·obtain rfl : n = i := by omega
       go_wp2_with fail
       go_roundg (n - (m + 1))
       case measure => omega
       case rel => exact ⟨m + 1, rfl, by omega, by go_num, Lib.hid (hin3.out.congr (fun i' j hi' hj => by unfold matF; rw [if_pos (.inl hi')]))⟩
    ·obtain rfl : n = m := by omega
     go_wp2_with fail
     go_ret
     exact ⟨oa, oc, gs, rfl, hin2.out⟩
end Go.Proofs.YtlklmpjakeedcaaGreatDoor
set_option linter.unusedVariables false
set_option linter.unusedSimpArgs false
set_option linter.unnecessarySimpa false
namespace Go.Proofs.YtlklmpjakeedcaaGreatDoor
open Go.RowKit Go.MapKept Go.Shelf

set_option maxRecDepth 100000 in
set_option maxHeartbeats 8000000 in
/-- May a number's part be put next? -/
theorem refOpen_any (w0 w : World) (n : Nat) (G : List (List Nat)) (hn : n = G.length) (hn64 : n ≤ 64) (oa : Option Addr) (oc : Nat) (gs : List Nat) (hM : MatB w0 n n oa oc gs (Cp.wB G n) w) (pb pc : Nat) (hpc : n ≤ pc ∧ pc ≤ 9223372036854775807) (put : Nat → Bool) (hp : w.heap[pb]? = some (rowB ((List.range n).map put))) (a : Nat) (ha : a < n) :
  Calls Tryz.prog 121 #[.slice oa n oc, .slice (some ⟨pb, 0, none⟩) n pc, .int .i64 a] w fun e w' => e = .returned (.bool (Cp.openR G put a)) ∧ Chg [] w w' := by
 obtain ⟨R, hR⟩ : ∃ R, R = Cp.openR G put a := ⟨_, rfl⟩
 rw [← hR]
 have hR2 : R = (!put a && (List.range n).all (fun k => !(Cp.wB G n a k && !put k && !Cp.wB G n k a))) := by rw [hR, hn]; rfl
 obtain ⟨go, ga', rfl, hga, -, xo, ho1, ho2, -, hgb⟩ := hM.read ha
 have xp := rowB_getF hp ha
 obtain ⟨pa, hpa⟩ : ∃ pa, pa = put a := ⟨_, rfl⟩
 rw [← hpa] at xp
 have H := Lib.hid (And.intro hn (And.intro hM (And.intro hp (And.intro hR2 (And.intro hpa (And.intro hga hgb))))))
 clear hn hM hp hR hR2 hpa hga hgb
 go_enter Tryz.func121, Tryz.ntmps121
 cases pa with
 | true =>
  go_wp2_with fail
  go_ret
  refine ⟨ret_bool (a := false) ?_, Chg.refl _ _⟩
  rw [H.out.2.2.2.1, ← H.out.2.2.2.2.1]; rfl
 | false =>
  go_wp2_with fail
  clear xp
  go_loopg [7] n (fun d kv wr => ∃ k : Nat, d = n - k ∧ k ≤ n ∧ kv = .int .i64 k ∧ Hid ((∀ j, j < k → (Cp.wB G n a j && !put j && !Cp.wB G n j a) = false) ∧ Chg [] w wr))
  case atStart => exact ⟨0, rfl, Nat.zero_le _, rfl, Lib.hid ⟨fun j h => absurd h (Nat.not_lt_zero _), Chg.refl _ _⟩⟩
  case round =>
   obtain ⟨k, rfl, hk, rfl, hin⟩ := hrel
   obtain ⟨wq, rfl⟩ : ∃ wz, wz = wr := ⟨_, rfl⟩
   by_cases hlt : k < n
   ·have xo1 := hin.out.2.cell xo (by simp)
    have xv1 := rowB_getF (hin.out.2.heap H.out.2.2.2.2.2.2 (by simp)) hlt
    have xp1 := rowB_getF (hin.out.2.heap H.out.2.2.1 (by simp)) hlt
    obtain ⟨go', gk, ego, hgk, -, xo2, -, -, -, hgb2⟩ := (H.out.2.1.chg0 hin.out.2).read hlt
    obtain rfl : go = go' := by simpa using ego
    have xv2 := rowB_getF hgb2 ha
    obtain ⟨c1, hc1⟩ : ∃ c, c = Cp.wB G n a k := ⟨_, rfl⟩
    obtain ⟨c2, hc2⟩ : ∃ c, c = put k := ⟨_, rfl⟩
    obtain ⟨c3, hc3⟩ : ∃ c, c = Cp.wB G n k a := ⟨_, rfl⟩
    rw [← hc1] at xv1
    rw [← hc2] at xp1
    rw [← hc3] at xv2
    have HC := Lib.hid (And.intro hc1 (And.intro hc2 hc3))
    clear hc1 hc2 hc3 hgk hgb2 ego
    have hnext : (c1 && !c2 && !c3) = false → ∀ j, j < k + 1 → (Cp.wB G n a j && !put j && !Cp.wB G n j a) = false := fun hh j hj => by
     rcases Nat.lt_or_ge j k with h | h
     ·exact hin.out.1 j h
     ·obtain rfl : j = k := by omega
      rw [← HC.out.1, ← HC.out.2.1, ← HC.out.2.2]; exact hh
    have HX := Lib.hid hnext
    clear hnext
    cases c1 with
    | false =>
     go_wp2_with fail
     go_roundg (n - (k + 1))
     case measure => omega
     case rel => exact ⟨k + 1, rfl, by omega, by go_num, Lib.hid ⟨HX.out rfl, hin.out.2⟩⟩
    | true =>
     cases c2 with
     | true =>
      go_wp2_with fail
      go_roundg (n - (k + 1))
      case measure => omega
      case rel => exact ⟨k + 1, rfl, by omega, by go_num, Lib.hid ⟨HX.out rfl, hin.out.2⟩⟩
     | false =>
      cases c3 with
      | true =>
       go_wp2_with fail
       go_roundg (n - (k + 1))
       case measure => omega
       case rel => exact ⟨k + 1, rfl, by omega, by go_num, Lib.hid ⟨HX.out rfl, hin.out.2⟩⟩
      | false =>
       go_wp2_with fail
       go_ret
       refine ⟨ret_bool (a := false) ?_, hin.out.2⟩
       rw [H.out.2.2.2.1, ← H.out.2.2.2.2.1]
       have : (List.range n).all (fun k => !(Cp.wB G n a k && !put k && !Cp.wB G n k a)) = false := by
        rw [List.all_eq_false]
        exact ⟨k, List.mem_range.2 hlt, by rw [← HC.out.1, ← HC.out.2.1, ← HC.out.2.2]; simp⟩
       rw [this]; rfl
   ·obtain rfl : n = k := by omega
    go_wp2_with fail
    go_ret
    refine ⟨ret_bool (a := true) ?_, hin.out.2⟩
    rw [H.out.2.2.2.1, ← H.out.2.2.2.2.1]
    have : (List.range n).all (fun k => !(Cp.wB G n a k && !put k && !Cp.wB G n k a)) = true := by
     rw [List.all_eq_true]
     exact fun j hj => by rw [hin.out.1 j (List.mem_range.1 hj)]; rfl
    rw [this]; rfl
end Go.Proofs.YtlklmpjakeedcaaGreatDoor

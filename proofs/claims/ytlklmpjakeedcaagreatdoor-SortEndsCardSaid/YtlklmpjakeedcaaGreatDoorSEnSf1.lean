/-
 The document's answer of layer 12: the nodes at a node's own place.
 Conditions: the grammar is right; a rank is told of each rule.
-/
import Derived.Test.YtlklmpjakeedcaaGreatDoorSEnRf3
import Derived.Test.YtlklmpjakeedcaaGreatDoorSEnLf4
import Derived.Test.YtlklmpjakeedcaaGreatDoorSEnKB3
import Derived.Test.YtlklmpjakeedcaaGreatDoorSEnGAny2
set_option linter.unusedVariables false
set_option linter.unusedSimpArgs false
set_option linter.unnecessarySimpa false
namespace Go.Proofs.YtlklmpjakeedcaaGreatDoor
open Go.RowKit Go.MapKept Go.Shelf

/-- What is still to come behind i kids. -/
def restO (k : Int) (N : Int → Bool) (F : Int → List Int) (zs : List Int) (i : Nat) : List Int := if 0 < i ∧ k = 6 ∧ N (zs.getD (i - 1) 0) = false then [] else kidsOwn k N F (zs.drop i)
theorem restO_zero (k : Int) (N : Int → Bool) (F : Int → List Int) (zs : List Int) : restO k N F zs 0 = kidsOwn k N F zs := by
 unfold restO
 rw [if_neg (fun h => absurd h.1 (Nat.lt_irrefl 0)), List.drop_zero]
theorem restO_end (k : Int) (N : Int → Bool) (F : Int → List Int) (zs : List Int) : restO k N F zs zs.length = [] := by
 unfold restO
 rw [List.drop_length]
 split <;> rfl
theorem restO_stop {k : Int} {N : Int → Bool} {F : Int → List Int} {zs : List Int} {i : Nat} (hi : i < zs.length) (hk : k = 6) (h : N zs[i] = false) : restO k N F zs (i + 1) = [] := by
 unfold restO
 rw [if_pos]
 refine ⟨by omega, hk, ?_⟩
 rw [Nat.add_sub_cancel, List.getD, List.getElem?_eq_getElem hi]
 exact h
theorem restO_next {k : Int} {N : Int → Bool} {F : Int → List Int} {zs : List Int} {i : Nat} (hi : i < zs.length) (h : ¬ (0 < i ∧ k = 6 ∧ N (zs.getD (i - 1) 0) = false)) : restO k N F zs i = F zs[i] ++ restO k N F zs (i + 1) := by
 unfold restO
 rw [if_neg h, List.drop_eq_getElem_cons hi]
 simp only [kidsOwn]
 congr 1
 have e : zs.getD (i + 1 - 1) 0 = zs[i] := by rw [Nat.add_sub_cancel, List.getD, List.getElem?_eq_getElem hi]; rfl
 rw [e]
 by_cases h1 : k = 6 ∧ N zs[i] = false
 ·rw [if_pos h1, if_pos ⟨by omega, h1.1, h1.2⟩]
 ·rw [if_neg h1, if_neg (fun h2 => h1 h2.2)]
theorem ownN_few {g : Gr} (hr : rightB g = true) (N : Int → Bool) {n : Nat} (hn : n < g.nodes.length) : (ownN g.nodes N n).length ≤ 2048 := by
 rw [ownN_pick (right_tree hr) N hn]
 have := pickL_le g.nodes.length (fun j => decide ((j : Int) ∈ ownN g.nodes N n))
 have := (right_sizes hr).2.2
 omega
/-- Numbers told, with their count. -/
def ToldInts (w : World) (zs : List Int) (e : Ending) (w' : World) : Prop := ∃ a l c, e = .returned (.slice a l c) ∧ l = zs.length ∧ FreshInts w.heap.size w' a c zs ∧ Chg [] w w'

set_option maxRecDepth 100000 in
set_option maxHeartbeats 32000000 in
theorem ref12Own_any (a1 : Option Addr) (n1 c1 : Nat) (a2 : Option Addr) (n2 c2 : Nat) (g : Gr) (hr : rightB g = true) (az : Option Addr) (nz cz : Nat) (zs : List Int) (hzl : zs.length = g.rules.length) (hnz : nz = zs.length) (N : Int → Bool) (hN : N = mayN g.nodes (callsB zs 1073741824)) :
  ∀ (d n : Nat), g.nodes.length - n ≤ d → n < g.nodes.length → ∀ w, GramAt w a1 n1 c1 a2 n2 c2 g → Ints w az zs →
  Calls Tryz.prog 117 #[.agg #[.slice a1 n1 c1, .slice a2 n2 c2], .int .i64 (n : Int), .slice az nz cz] w (ToldInts w (ownN g.nodes N n)) := by
 obtain ⟨i0, hi0, hz0, hz1, hz2⟩ := info_parts Tryz.infoInt
 intro d
 induction d with
 | zero => intro n h1 h2; omega
 | succ d ih =>
 intro n hd hn w hg hz
 obtain ⟨x, hx⟩ : ∃ x, x = g.nodes[n] := ⟨_, rfl⟩
 obtain ⟨F, hF⟩ : ∃ F, F = ownN g.nodes N := ⟨_, rfl⟩
 obtain ⟨T, hT⟩ : ∃ T, T = ownN g.nodes N n := ⟨_, rfl⟩
 have hval : T = (n : Int) :: kidsOwn x.k N F x.kids := by rw [hT, ownN_eq (falls_right hr) _ hn, hx, hF]
 have hT2 : T.length ≤ 2048 := by rw [hT]; exact ownN_few hr N hn
 rw [← hT]
 have hkids : ∀ k ∈ x.kids, (n : Int) < k ∧ k < g.nodes.length := fun k hk => right_kids hr hn k (by rw [hx] at hk; exact hk)
 have he2 := hg.e2
 have hn2 : n < n2 := by rw [he2]; exact hn
 have hrec : ∀ (k : Nat) (hk : k < x.kids.length) (W : World), Chg [] w W → Calls Tryz.prog 117 #[.agg #[.slice a1 n1 c1, .slice a2 n2 c2], .int .i64 x.kids[k], .slice az nz cz] W (ToldInts W (F x.kids[k])) := fun k hk W hW => by
  obtain ⟨q1, q2⟩ := hkids _ (List.getElem_mem hk)
  obtain ⟨q, hq⟩ : ∃ q : Nat, x.kids[k] = (q : Int) := ⟨x.kids[k].toNat, by omega⟩
  have := ih q (by omega) (by omega) W (hg.keep hW.kp) (hz.keep hW.kp)
  rw [hq, hF]
  exact this
 have hfew : ∀ (k : Nat) (hk : k < x.kids.length), 0 < (F x.kids[k]).length ∧ (F x.kids[k]).length ≤ 2048 := fun k hk => by
  obtain ⟨q1, q2⟩ := hkids _ (List.getElem_mem hk)
  obtain ⟨q, hq⟩ : ∃ q : Nat, x.kids[k] = (q : Int) := ⟨x.kids[k].toNat, by omega⟩
  rw [hq, hF]
  refine ⟨?_, ownN_few hr N (by omega)⟩
  rw [ownN_eq (falls_right hr) _ (show q < g.nodes.length by omega)]
  simp
 have hmay : ∀ (k : Nat) (hk : k < x.kids.length) (W : World), Chg [] w W → Calls Tryz.prog 164 #[.agg #[.slice a1 n1 c1, .slice a2 n2 c2], .int .i64 x.kids[k], .slice az nz cz, .int .i64 1073741824] W fun e w' => e = .returned (.bool (N x.kids[k])) ∧ Chg [] W w' := fun k hk W hW => by
  obtain ⟨q1, q2⟩ := hkids _ (List.getElem_mem hk)
  obtain ⟨q, hq⟩ : ∃ q : Nat, x.kids[k] = (q : Int) := ⟨x.kids[k].toNat, by omega⟩
  have := refMay_any a1 n1 c1 a2 n2 c2 g hr az nz cz zs hzl hnz 1073741824 g.nodes.length q (by omega) (by omega) W (hg.keep hW.kp) (hz.keep hW.kp)
  rw [hq, hN]
  exact this
 obtain ⟨bn, on, ak, nk, ck, rfl, hxa⟩ := hg.nodes n hn
 rw [← hx] at hxa
 obtain ⟨p0, p1, p2, p3, p4, p5, p6, p7, p8, hnk, hle, hcap, hik⟩ := hxa
 have hbk := World.block_lt_of_cell? _ _ p0
 simp only at hbk
 have hsm : nk ≤ 9223372036854775807 := by simp only [maxLen] at hcap; omega
 have hc2 : n2 ≤ 9223372036854775807 := hg.small.2
 have H := Lib.hid (And.intro hrec (And.intro hik (And.intro hnk (And.intro hval hT2))))
 have HP := Lib.hid (And.intro hmay hfew)
 clear ih hd hg hz hval hkids hx hF hrec hik hnk hle hcap hmay hfew he2 hr hnz hzl hN hT hT2
 obtain ⟨xk, xc0, xc1, xc2, xc3, xs, xr, xl, xkids⟩ := x
 simp only at p0 p1 p2 p3 p4 p5 p6 p7
 obtain ⟨w0, ew0⟩ : ∃ w0, w0 = (((w.alloc (.cells #[.slice a1 n1 c1, .slice (some ⟨bn, on, none⟩) n2 c2] 31)).alloc (.cells #[.int .i64 n] 3)).alloc (.cells #[.int .i64 xk, .int .u64 xc0, .int .u64 xc1, .int .u64 xc2, .int .u64 xc3, .string xs, .int .i64 xr, .int .i64 xl, .slice ak nk ck] 65)) := ⟨_, rfl⟩
 have hW0 : Chg [] w w0 := by rw [ew0]; exact (((Chg.refl [] w).alloc _).alloc _).alloc _
 have hbg : w0.heap[w.heap.size]? = some (.cells #[.slice a1 n1 c1, .slice (some ⟨bn, on, none⟩) n2 c2] 31 (0, 0)) := by rw [ew0]; exact heap_alloc_lt (heap_alloc_lt (heap_alloc_same _ _) _) _
 have hbo : w0.heap[w.heap.size + 1]? = some (.cells #[.int .i64 n] 3 (0, 0)) := by
  rw [ew0]
  have := heap_alloc_same (w.alloc (.cells #[.slice a1 n1 c1, .slice (some ⟨bn, on, none⟩) n2 c2] 31)) (.cells #[.int .i64 n] 3)
  rw [World.size_alloc] at this
  exact heap_alloc_lt this _
 obtain ⟨BX, hBX⟩ : ∃ BX, BX = w.heap.size + 1 + 1 := ⟨_, rfl⟩
 have hbx : w0.heap[BX]? = some (.cells #[.int .i64 xk, .int .u64 xc0, .int .u64 xc1, .int .u64 xc2, .int .u64 xc3, .string xs, .int .i64 xr, .int .i64 xl, .slice ak nk ck] 65 (0, 0)) := by
  rw [ew0, hBX]
  have := heap_alloc_same ((w.alloc (.cells #[.slice a1 n1 c1, .slice (some ⟨bn, on, none⟩) n2 c2] 31)).alloc (.cells #[.int .i64 n] 3)) (.cells #[.int .i64 xk, .int .u64 xc0, .int .u64 xc1, .int .u64 xc2, .int .u64 xc3, .string xs, .int .i64 xr, .int .i64 xl, .slice ak nk ck] 65)
  simpa using this
 have HE := Lib.hid ew0
 have HBH := Lib.hid (And.intro hbg (And.intro hbx (And.intro hW0 hbo)))
 clear ew0 hW0 hbg hbx hbo
 go_enter Tryz.func117, Tryz.ntmps117
 go_wp2_with fail
 rw [← HE.out, ← hBX]
 clear hBX
 go_loopg [9, 7] nk (fun dd iv ov wr => ∃ (i om oc : Nat) (oa : Option Addr), dd = nk - i ∧ i ≤ nk ∧ iv = .int .i64 i ∧ ov = .slice oa om oc ∧ Hid (∃ OL, om = OL.length ∧ FreshInts w.heap.size wr oa oc OL ∧ T = OL ++ restO xk N F xkids i ∧ wr.heap[w.heap.size]? = some (.cells #[.slice a1 n1 c1, .slice (some ⟨bn, on, none⟩) n2 c2] 31 (0, 0)) ∧ wr.heap[BX]? = some (.cells #[.int .i64 xk, .int .u64 xc0, .int .u64 xc1, .int .u64 xc2, .int .u64 xc3, .string xs, .int .i64 xr, .int .i64 xl, .slice ak nk ck] 65 (0, 0)) ∧ Chg [] w wr))
 case atStart => exact ⟨0, 1, 1, _, rfl, Nat.zero_le _, rfl, rfl, Lib.hid ⟨[(n : Int)], rfl, ⟨rfl, .inr ⟨w.heap.size + 1, 1, _, rfl, by omega, HBH.out.2.2.2, Nat.le_refl _, by decide, rfl, rfl⟩⟩, by rw [restO_zero, H.out.2.2.2.1]; rfl, HBH.out.1, HBH.out.2.1, HBH.out.2.2.1⟩⟩
 case round =>
  obtain ⟨i, om, oc, oa, rfl, hi, rfl, rfl, hin⟩ := hrel
  obtain ⟨wq, rfl⟩ : ∃ wq, wq = wr := ⟨_, rfl⟩
  obtain ⟨OL, hOl, hOf, hOt, hOg, hOx, hOc⟩ := hin.out
  have HO := Lib.hid (And.intro hOl (And.intro hOf (And.intro hOt (And.intro hOg (And.intro hOx hOc)))))
  obtain ⟨x0, x1⟩ := cells2 hOg
  obtain ⟨y0, y1, y2, y3, y4, y5, y6, y7, y8⟩ := cells9 hOx
  clear hOl hOf hOt hOg hOx hOc hin
  by_cases hil : i < nk
  ·have hik : i < xkids.length := by rw [← H.out.2.2.1]; exact hil
   obtain ⟨bk, ok, rfl, hkc⟩ := (H.out.2.1.keep HO.out.2.2.2.2.2.kp) i hik
   try simp only at hkc
   obtain ⟨kv, hkv⟩ : ∃ kv, kv = xkids[i] := ⟨_, rfl⟩
   obtain ⟨FV, hFV⟩ : ∃ FV, FV = F kv := ⟨_, rfl⟩
   have hrecK : ∀ W, Chg [] wq W → Calls Tryz.prog 117 #[.agg #[.slice a1 n1 c1, .slice (some ⟨bn, on, none⟩) n2 c2], .int .i64 kv, .slice az nz cz] W (ToldInts W FV) := fun W hW => by
    have := H.out.1 i hik W (HO.out.2.2.2.2.2.tr hW)
    rw [hFV, hkv]
    exact this
   have hFl : 0 < FV.length ∧ FV.length ≤ 2048 := by rw [hFV, hkv]; exact HP.out.2 i hik
   rw [← hkv] at hkc
   have hom : om ≤ 2048 := by
    have h1 := HO.out.1
    have h2 := congrArg List.length HO.out.2.2.1
    rw [List.length_append] at h2
    have := H.out.2.2.2.2
    omega
   have hnx : ¬ (0 < i ∧ xk = 6 ∧ N (xkids.getD (i - 1) 0) = false) → T = OL ++ FV ++ restO xk N F xkids (i + 1) := fun h => by rw [HO.out.2.2.1, restO_next hik h, ← hkv, ← hFV, List.append_assoc]
   have HQ := Lib.hid (And.intro hrecK (And.intro hFl (And.intro hkc (And.intro hom (And.intro hnx hik)))))
   have hi1 : (i : Int) < nk := by omega
   clear hkv hFV hrecK hFl hkc hom hnx
   by_cases h6 : xk = 6
   ·subst h6
    rcases Nat.eq_zero_or_pos i with hiz | hpos
    ·have hg9 : decide ((0 : Int) < (i : Int)) = false := decide_eq_false (by omega)
     have hgN : decide (0 < i) = false := decide_eq_false (by omega)
     replace hiz := Lib.hid hiz
     have kx0 := cell_rg x0
     have kx1 := cell_rg x1
     have ky0 := cell_rg y0
     have ky8 := cell_rg y8
     clear x0 x1 y0 y1 y2 y3 y4 y5 y6 y7
     go_wp2_with fail
     refine wp_region_quiet_below (by kernel_rfl) (by kernel_rfl) ?_
     repeat (go_big_quiet_step (fail))
     refine wpQuiet_nil ?_
     intro w7 hw7
     have hc7 := chg_of_rg hw7
     have HS := Lib.hid (And.intro (HO.out.2.2.2.2.2.tr hc7) (And.intro (hc7.heap HO.out.2.2.2.1 (by simp)) (And.intro (cells9 (hc7.heap HO.out.2.2.2.2.1 (by simp))).2.2.2.2.2.2.2.2 (And.intro (hc7.cell HQ.out.2.2.1 (by simp)) (And.intro HQ.out.2.1 (And.intro (hc7.row HO.out.2.1 (fun _ _ => by simp)) (And.intro HO.out.1 (And.intro HQ.out.2.2.2.1 (And.intro (hc7.heap HO.out.2.2.2.2.1 (by simp)) (HQ.out.2.2.2.2.1 (fun h => by have := hiz.out; omega)))))))))))
     have HR : Hid (∀ W, Chg [] w7 W → Calls Tryz.prog 117 #[.agg #[.slice a1 n1 c1, .slice (some ⟨bn, on, none⟩) n2 c2], .int .i64 kv, .slice az nz cz] W (ToldInts W FV)) := Lib.hid fun W hW => HQ.out.1 W (hc7.tr hW)
     clear hc7 hw7 kx0 kx1 ky0 ky8 y8 hg9 hgN
     obtain ⟨ws, rfl⟩ : ∃ wz, wz = w7 := ⟨_, rfl⟩
     go_wp2_with fail
     refine wp_region_tail2 (by kernel_rfl) (by kernel_rfl) [43, 44, 45, 46, 47, 48, 49, 50, 51] (by kernel_rfl) (fun rI rV rW => match rI with | 0 => rV = .slice oa om oc | 1 => rV = .agg #[.slice a1 n1 c1, .slice (some ⟨bn, on, none⟩) n2 c2] | 2 => rV = .pointer (some ⟨BX, 8, none⟩) | 3 => rV = .slice (some ⟨bk, ok, none⟩) nk ck | 4 => rV = .int .i64 (i : Int) | 5 => rV = .pointer (some ⟨bk, ok + i, none⟩) | 6 => rV = .int .i64 kv | 7 => rV = .slice az nz cz | 8 => ∃ r51 l51 c51, rV = .slice r51 l51 c51 ∧ l51 = FV.length ∧ FreshInts ws.heap.size rW r51 c51 FV | _ => True) ?hS10 ?hstep10 ?hdone10
     case hS10 =>
      intro rI rV rW rW' hc rP
      match rI, rP with
      | 0, rP => exact rP
      | 1, rP => exact rP
      | 2, rP => exact rP
      | 3, rP => exact rP
      | 4, rP => exact rP
      | 5, rP => exact rP
      | 6, rP => exact rP
      | 7, rP => exact rP
      | 8, rP => exact (by obtain ⟨r51, l51, c51, e9, hp⟩ := rP; exact ⟨r51, l51, c51, e9, ⟨hp.1, hc.row hp.2 (fun _ _ => by simp)⟩⟩)
      | _ + 9, _ => trivial
     case hstep10 =>
      intro rI rH us W hC hdep K hK
      have hiN : rI < 9 := rH
      simp only [actU, Act.put, List.setIfInBounds_toArray, List.set_cons_succ, List.set_cons_zero, Nat.reduceAdd] at hK ⊢
      obtain ⟨x0, x1⟩ := cells2 (hC.heap HS.out.2.1 (by simp))
      have y8 := hC.cell HS.out.2.2.1 (by simp)
      have hkc := hC.cell HS.out.2.2.2.1 (by simp)
      rcases (show rI = 0 ∨ rI = 1 ∨ rI = 2 ∨ rI = 3 ∨ rI = 4 ∨ rI = 5 ∨ rI = 6 ∨ rI = 7 ∨ rI = 8 by omega) with rfl | rfl | rfl | rfl | rfl | rfl | rfl | rfl | rfl
      ·simp only [List.getD_cons_succ, List.getD_cons_zero, List.setIfInBounds_toArray, List.set_cons_succ, List.set_cons_zero] at hK ⊢
       refine wpOp_at rfl rfl ?_
       go_simp
       exact hK _ _ _ rfl (Chg.refl _ _) rfl
      ·simp only [List.getD_cons_succ, List.getD_cons_zero, List.setIfInBounds_toArray, List.set_cons_succ, List.set_cons_zero] at hK ⊢
       refine wpOp_at rfl rfl ?_
       go_simp
       exact hK _ _ _ rfl (Chg.refl _ _) rfl
      ·simp only [List.getD_cons_succ, List.getD_cons_zero, List.setIfInBounds_toArray, List.set_cons_succ, List.set_cons_zero] at hK ⊢
       refine wpOp_at rfl rfl ?_
       go_simp
       exact hK _ _ _ rfl (Chg.refl _ _) rfl
      ·have l2 := hdep 2 (by kernel_rfl)
       replace l2 : us 2 = .pointer (some ⟨BX, 8, none⟩) := l2
       simp only [List.getD_cons_succ, List.getD_cons_zero, List.setIfInBounds_toArray, List.set_cons_succ, List.set_cons_zero, l2] at hK ⊢
       refine wpOp_at rfl rfl ?_
       go_simp
       exact hK _ _ _ rfl (Chg.refl _ _) rfl
      ·simp only [List.getD_cons_succ, List.getD_cons_zero, List.setIfInBounds_toArray, List.set_cons_succ, List.set_cons_zero] at hK ⊢
       refine wpOp_at rfl rfl ?_
       go_simp
       exact hK _ _ _ rfl (Chg.refl _ _) rfl
      ·have l3 := hdep 3 (by kernel_rfl)
       replace l3 : us 3 = .slice (some ⟨bk, ok, none⟩) nk ck := l3
       have l4 := hdep 4 (by kernel_rfl)
       replace l4 : us 4 = .int .i64 (i : Int) := l4
       simp only [List.getD_cons_succ, List.getD_cons_zero, List.setIfInBounds_toArray, List.set_cons_succ, List.set_cons_zero, l3, l4] at hK ⊢
       refine wpOp_at rfl rfl ?_
       go_simp
       exact hK _ _ _ rfl (Chg.refl _ _) rfl
      ·have l5 := hdep 5 (by kernel_rfl)
       replace l5 : us 5 = .pointer (some ⟨bk, ok + i, none⟩) := l5
       simp only [List.getD_cons_succ, List.getD_cons_zero, List.setIfInBounds_toArray, List.set_cons_succ, List.set_cons_zero, l5] at hK ⊢
       refine wpOp_at rfl rfl ?_
       go_simp
       exact hK _ _ _ rfl (Chg.refl _ _) rfl
      ·simp only [List.getD_cons_succ, List.getD_cons_zero, List.setIfInBounds_toArray, List.set_cons_succ, List.set_cons_zero] at hK ⊢
       refine wpOp_at rfl rfl ?_
       go_simp
       exact hK _ _ _ rfl (Chg.refl _ _) rfl
      ·have l1 := hdep 1 (by kernel_rfl)
       replace l1 : us 1 = .agg #[.slice a1 n1 c1, .slice (some ⟨bn, on, none⟩) n2 c2] := l1
       have l6 := hdep 6 (by kernel_rfl)
       replace l6 : us 6 = .int .i64 kv := l6
       have l7 := hdep 7 (by kernel_rfl)
       replace l7 : us 7 = .slice az nz cz := l7
       simp only [List.getD_cons_succ, List.getD_cons_zero, List.setIfInBounds_toArray, List.set_cons_succ, List.set_cons_zero, l1, l6, l7] at hK ⊢
       refine wpOp_at rfl rfl ?_
       go_simp
       refine (HR.out W hC).mono ?_
       rintro e wz ⟨r51, l51, c51, rfl, e51, f51, hz⟩
       exact hK _ _ _ rfl hz ⟨r51, l51, c51, rfl, ⟨e51, row_base f51 hC.size⟩⟩
     case hdone10 =>
      intro us W hC hall
      have l0 := hall 0 (by decide)
      replace l0 : us 0 = .slice oa om oc := l0
      have l1 := hall 1 (by decide)
      replace l1 : us 1 = .agg #[.slice a1 n1 c1, .slice (some ⟨bn, on, none⟩) n2 c2] := l1
      have l2 := hall 2 (by decide)
      replace l2 : us 2 = .pointer (some ⟨BX, 8, none⟩) := l2
      have l3 := hall 3 (by decide)
      replace l3 : us 3 = .slice (some ⟨bk, ok, none⟩) nk ck := l3
      have l4 := hall 4 (by decide)
      replace l4 : us 4 = .int .i64 (i : Int) := l4
      have l5 := hall 5 (by decide)
      replace l5 : us 5 = .pointer (some ⟨bk, ok + i, none⟩) := l5
      have l6 := hall 6 (by decide)
      replace l6 : us 6 = .int .i64 kv := l6
      have l7 := hall 7 (by decide)
      replace l7 : us 7 = .slice az nz cz := l7
      have l8 := hall 8 (by decide)
      obtain ⟨r51, l51, c51, l8, p8⟩ := l8
      simp only [actU, Act.put, List.setIfInBounds_toArray, List.set_cons_succ, List.set_cons_zero, Nat.reduceAdd, l0, l1, l2, l3, l4, l5, l6, l7, l8]
      clear hall l0 l1 l2 l3 l4 l5 l6 l7 l8
      obtain ⟨e8, f8⟩ := p8
      have hFV : 0 < FV.length ∧ FV.length ≤ 2048 := HS.out.2.2.2.2.1
      obtain ⟨g51, rfl⟩ : ∃ g, r51 = some ⟨g, 0, none⟩ := by
       rcases f8.2 with ⟨h0, h1⟩ | ⟨g, cap, cur, h0, _⟩
       ·omega
       ·cases h0; exact ⟨g, rfl⟩
      have hrow : W.ownsRow w.heap.size 3 1 (.slice oa om oc) om (OL.map (Value.int .i64)) := by
       have h9 : FreshInts w.heap.size W oa oc OL := hC.row HS.out.2.2.2.2.2.1 (fun _ _ => by simp)
       unfold FreshInts at h9
       rw [← HS.out.2.2.2.2.2.2.1] at h9
       exact h9
      have hnews : ∀ j u, (FV.map (Value.int .i64))[j]? = some u → W.cell? ((⟨g51, 0, none⟩ : Addr).add j) = some u := World.ownsRow.cells f8 (g := g51) rfl
      have hbs : w.heap.size ≤ W.heap.size := (HS.out.1.tr hC).size
      have hom : om ≤ 2048 := HS.out.2.2.2.2.2.2.2.1
      refine wpOp_at rfl rfl ?_
      refine wpOper_append_own_at _ _ 34 rfl w.heap.size 3 i0 _ 1 8 Tryz.underlying34 hi0 hz0 hz1 hz2 rfl (by decide) (.slice oa om oc) om (OL.map (Value.int .i64)) rfl hrow ⟨g51, 0, none⟩ l51 c51 (FV.map (Value.int .i64)) rfl (by rw [List.length_map, Nat.mul_one]; exact e8.symm) hnews (by intro u hu; obtain ⟨z, _, rfl⟩ := List.mem_map.1 hu; rfl) (by simp only [maxLen]; omega) (by omega) hbs ?_
      intro v' w8 h81 h82 h83
      obtain ⟨a8, c8, rfl⟩ := ownsRow_slice h81
      have HW := Lib.hid (And.intro h81 (And.intro h82 (And.intro hrow (And.intro e8 (And.intro (HS.out.1.tr hC) (And.intro (hC.heap HS.out.2.1 (by simp)) (hC.heap HS.out.2.2.2.2.2.2.2.2.1 (by simp))))))))
      clear h81 h82 h83 hrow hnews hbs e8 f8 hFV hom hC
      refine wpOp_at rfl rfl ?_
      go_simp
      go_wp2_with fail
      go_roundg (nk - (i + 1))
      case measure => omega
      case rel =>
       have hg : Chg [] w w8 := HW.out.2.2.2.2.1.grown HW.out.2.1 (fun k hk => .inr (by have := (row_beyond HW.out.2.2.1 hk).1; omega))
       have hb1 := grown_heap HW.out.2.1 (HW.out.2.2.2.2.2.1) (ownsRow_ne HW.out.2.2.1 HW.out.2.2.2.2.2.1 (by decide))
       have hb2 := grown_heap HW.out.2.1 (HW.out.2.2.2.2.2.2) (ownsRow_ne HW.out.2.2.1 HW.out.2.2.2.2.2.2 (by decide))
       have he := HW.out.2.2.2.1
       have ho := HS.out.2.2.2.2.2.2.1
       have hrw := HW.out.1
       rw [← List.map_append] at hrw
       have hln : om + l51 = (OL ++ FV).length := by rw [List.length_append, ← he, ← ho]
       exact ⟨i + 1, om + l51, c8, a8, rfl, by omega, by go_num, rfl, Lib.hid ⟨OL ++ FV, hln, by unfold FreshInts; rw [← hln]; exact hrw, HS.out.2.2.2.2.2.2.2.2.2, hb1, hb2, hg⟩⟩
    ·obtain ⟨j, rfl⟩ : ∃ j, i = j + 1 := ⟨i - 1, by omega⟩
     have hjk : j < xkids.length := by omega
     obtain ⟨bk', ok', e9, hkj⟩ := (H.out.2.1.keep HO.out.2.2.2.2.2.kp) j hjk
     cases e9
     try simp only at hkj
     obtain ⟨kj, hkj2⟩ : ∃ kj, kj = xkids[j] := ⟨_, rfl⟩
     rw [← hkj2] at hkj
     obtain ⟨nv, hnv⟩ : ∃ nv, nv = N kj := ⟨_, rfl⟩
     have cA := calls_rg (w := wq) (fun w1 h1 => HP.out.1 j hjk w1 (HO.out.2.2.2.2.2.tr h1))
     try simp only at cA
     rw [← hkj2, ← hnv] at cA
     have hst : nv = false → T = OL := fun h => by
      have := HO.out.2.2.1
      rw [restO_stop hjk rfl (by rw [← hkj2, ← hnv]; exact h), List.append_nil] at this
      exact this
     have hgo : nv = true → N (xkids.getD (j + 1 - 1) 0) = true := fun h => by
      rw [Nat.add_sub_cancel, List.getD, List.getElem?_eq_getElem hjk]
      show N xkids[j] = true
      rw [← hkj2, ← hnv]; exact h
     have HJ := Lib.hid (And.intro hst hgo)
     have hg9 : decide ((0 : Int) < ((j + 1 : Nat) : Int)) = true := decide_eq_true (by omega)
     have hj1 : (j : Int) + 1 - 1 = j := by omega
     have hjn : (j : Int) < nk := by omega
     have kkj := cell_rg hkj
     clear hst hgo hkj2 hnv hkj hjk
     cases nv with
     | true =>
      have kx0 := cell_rg x0
      have kx1 := cell_rg x1
      have ky0 := cell_rg y0
      have ky8 := cell_rg y8
      clear x0 x1 y0 y1 y2 y3 y4 y5 y6 y7
      go_wp2_with fail
      refine wp_region_quiet_below (by kernel_rfl) (by kernel_rfl) ?_
      repeat (go_big_quiet_step (with_reducible exact cA _ _))
      refine wpQuiet_nil ?_
      intro w7 hw7
      have hc7 := chg_of_rg hw7
      have HS := Lib.hid (And.intro (HO.out.2.2.2.2.2.tr hc7) (And.intro (hc7.heap HO.out.2.2.2.1 (by simp)) (And.intro (cells9 (hc7.heap HO.out.2.2.2.2.1 (by simp))).2.2.2.2.2.2.2.2 (And.intro (hc7.cell HQ.out.2.2.1 (by simp)) (And.intro HQ.out.2.1 (And.intro (hc7.row HO.out.2.1 (fun _ _ => by simp)) (And.intro HO.out.1 (And.intro HQ.out.2.2.2.1 (And.intro (hc7.heap HO.out.2.2.2.2.1 (by simp)) (HQ.out.2.2.2.2.1 (fun h => by have h3 := h.2.2; rw [HJ.out.2 (by first | rfl | trivial)] at h3; cases h3)))))))))))
      have HR : Hid (∀ W, Chg [] w7 W → Calls Tryz.prog 117 #[.agg #[.slice a1 n1 c1, .slice (some ⟨bn, on, none⟩) n2 c2], .int .i64 kv, .slice az nz cz] W (ToldInts W FV)) := Lib.hid fun W hW => HQ.out.1 W (hc7.tr hW)
      clear hc7 hw7 kx0 kx1 ky0 ky8 y8 hg9 hj1 hjn kkj cA
      obtain ⟨ws, rfl⟩ : ∃ wz, wz = w7 := ⟨_, rfl⟩
      go_wp2_with fail
      refine wp_region_tail2 (by kernel_rfl) (by kernel_rfl) [43, 44, 45, 46, 47, 48, 49, 50, 51] (by kernel_rfl) (fun rI rV rW => match rI with | 0 => rV = .slice oa om oc | 1 => rV = .agg #[.slice a1 n1 c1, .slice (some ⟨bn, on, none⟩) n2 c2] | 2 => rV = .pointer (some ⟨BX, 8, none⟩) | 3 => rV = .slice (some ⟨bk, ok, none⟩) nk ck | 4 => rV = .int .i64 ((j + 1 : Nat) : Int) | 5 => rV = .pointer (some ⟨bk, ok + (j + 1), none⟩) | 6 => rV = .int .i64 kv | 7 => rV = .slice az nz cz | 8 => ∃ r51 l51 c51, rV = .slice r51 l51 c51 ∧ l51 = FV.length ∧ FreshInts ws.heap.size rW r51 c51 FV | _ => True) ?hS12 ?hstep12 ?hdone12
      case hS12 =>
       intro rI rV rW rW' hc rP
       match rI, rP with
       | 0, rP => exact rP
       | 1, rP => exact rP
       | 2, rP => exact rP
       | 3, rP => exact rP
       | 4, rP => exact rP
       | 5, rP => exact rP
       | 6, rP => exact rP
       | 7, rP => exact rP
       | 8, rP => exact (by obtain ⟨r51, l51, c51, e9, hp⟩ := rP; exact ⟨r51, l51, c51, e9, ⟨hp.1, hc.row hp.2 (fun _ _ => by simp)⟩⟩)
       | _ + 9, _ => trivial
      case hstep12 =>
       intro rI rH us W hC hdep K hK
       have hiN : rI < 9 := rH
       simp only [actU, Act.put, List.setIfInBounds_toArray, List.set_cons_succ, List.set_cons_zero, Nat.reduceAdd] at hK ⊢
       obtain ⟨x0, x1⟩ := cells2 (hC.heap HS.out.2.1 (by simp))
       have y8 := hC.cell HS.out.2.2.1 (by simp)
       have hkc := hC.cell HS.out.2.2.2.1 (by simp)
       rcases (show rI = 0 ∨ rI = 1 ∨ rI = 2 ∨ rI = 3 ∨ rI = 4 ∨ rI = 5 ∨ rI = 6 ∨ rI = 7 ∨ rI = 8 by omega) with rfl | rfl | rfl | rfl | rfl | rfl | rfl | rfl | rfl
       ·simp only [List.getD_cons_succ, List.getD_cons_zero, List.setIfInBounds_toArray, List.set_cons_succ, List.set_cons_zero] at hK ⊢
        refine wpOp_at rfl rfl ?_
        go_simp
        exact hK _ _ _ rfl (Chg.refl _ _) rfl
       ·simp only [List.getD_cons_succ, List.getD_cons_zero, List.setIfInBounds_toArray, List.set_cons_succ, List.set_cons_zero] at hK ⊢
        refine wpOp_at rfl rfl ?_
        go_simp
        exact hK _ _ _ rfl (Chg.refl _ _) rfl
       ·simp only [List.getD_cons_succ, List.getD_cons_zero, List.setIfInBounds_toArray, List.set_cons_succ, List.set_cons_zero] at hK ⊢
        refine wpOp_at rfl rfl ?_
        go_simp
        exact hK _ _ _ rfl (Chg.refl _ _) rfl
       ·have l2 := hdep 2 (by kernel_rfl)
        replace l2 : us 2 = .pointer (some ⟨BX, 8, none⟩) := l2
        simp only [List.getD_cons_succ, List.getD_cons_zero, List.setIfInBounds_toArray, List.set_cons_succ, List.set_cons_zero, l2] at hK ⊢
        refine wpOp_at rfl rfl ?_
        go_simp
        exact hK _ _ _ rfl (Chg.refl _ _) rfl
       ·simp only [List.getD_cons_succ, List.getD_cons_zero, List.setIfInBounds_toArray, List.set_cons_succ, List.set_cons_zero] at hK ⊢
        refine wpOp_at rfl rfl ?_
        go_simp
        exact hK _ _ _ rfl (Chg.refl _ _) rfl
       ·have l3 := hdep 3 (by kernel_rfl)
        replace l3 : us 3 = .slice (some ⟨bk, ok, none⟩) nk ck := l3
        have l4 := hdep 4 (by kernel_rfl)
        replace l4 : us 4 = .int .i64 ((j + 1 : Nat) : Int) := l4
        simp only [List.getD_cons_succ, List.getD_cons_zero, List.setIfInBounds_toArray, List.set_cons_succ, List.set_cons_zero, l3, l4] at hK ⊢
        refine wpOp_at rfl rfl ?_
        go_simp
        exact hK _ _ _ rfl (Chg.refl _ _) rfl
       ·have l5 := hdep 5 (by kernel_rfl)
        replace l5 : us 5 = .pointer (some ⟨bk, ok + (j + 1), none⟩) := l5
        simp only [List.getD_cons_succ, List.getD_cons_zero, List.setIfInBounds_toArray, List.set_cons_succ, List.set_cons_zero, l5] at hK ⊢
        refine wpOp_at rfl rfl ?_
        go_simp
        exact hK _ _ _ rfl (Chg.refl _ _) rfl
       ·simp only [List.getD_cons_succ, List.getD_cons_zero, List.setIfInBounds_toArray, List.set_cons_succ, List.set_cons_zero] at hK ⊢
        refine wpOp_at rfl rfl ?_
        go_simp
        exact hK _ _ _ rfl (Chg.refl _ _) rfl
       ·have l1 := hdep 1 (by kernel_rfl)
        replace l1 : us 1 = .agg #[.slice a1 n1 c1, .slice (some ⟨bn, on, none⟩) n2 c2] := l1
        have l6 := hdep 6 (by kernel_rfl)
        replace l6 : us 6 = .int .i64 kv := l6
        have l7 := hdep 7 (by kernel_rfl)
        replace l7 : us 7 = .slice az nz cz := l7
        simp only [List.getD_cons_succ, List.getD_cons_zero, List.setIfInBounds_toArray, List.set_cons_succ, List.set_cons_zero, l1, l6, l7] at hK ⊢
        refine wpOp_at rfl rfl ?_
        go_simp
        refine (HR.out W hC).mono ?_
        rintro e wz ⟨r51, l51, c51, rfl, e51, f51, hz⟩
        exact hK _ _ _ rfl hz ⟨r51, l51, c51, rfl, ⟨e51, row_base f51 hC.size⟩⟩
      case hdone12 =>
       intro us W hC hall
       have l0 := hall 0 (by decide)
       replace l0 : us 0 = .slice oa om oc := l0
       have l1 := hall 1 (by decide)
       replace l1 : us 1 = .agg #[.slice a1 n1 c1, .slice (some ⟨bn, on, none⟩) n2 c2] := l1
       have l2 := hall 2 (by decide)
       replace l2 : us 2 = .pointer (some ⟨BX, 8, none⟩) := l2
       have l3 := hall 3 (by decide)
       replace l3 : us 3 = .slice (some ⟨bk, ok, none⟩) nk ck := l3
       have l4 := hall 4 (by decide)
       replace l4 : us 4 = .int .i64 ((j + 1 : Nat) : Int) := l4
       have l5 := hall 5 (by decide)
       replace l5 : us 5 = .pointer (some ⟨bk, ok + (j + 1), none⟩) := l5
       have l6 := hall 6 (by decide)
       replace l6 : us 6 = .int .i64 kv := l6
       have l7 := hall 7 (by decide)
       replace l7 : us 7 = .slice az nz cz := l7
       have l8 := hall 8 (by decide)
       obtain ⟨r51, l51, c51, l8, p8⟩ := l8
       simp only [actU, Act.put, List.setIfInBounds_toArray, List.set_cons_succ, List.set_cons_zero, Nat.reduceAdd, l0, l1, l2, l3, l4, l5, l6, l7, l8]
       clear hall l0 l1 l2 l3 l4 l5 l6 l7 l8
       obtain ⟨e8, f8⟩ := p8
       have hFV : 0 < FV.length ∧ FV.length ≤ 2048 := HS.out.2.2.2.2.1
       obtain ⟨g51, rfl⟩ : ∃ g, r51 = some ⟨g, 0, none⟩ := by
        rcases f8.2 with ⟨h0, h1⟩ | ⟨g, cap, cur, h0, _⟩
        ·omega
        ·cases h0; exact ⟨g, rfl⟩
       have hrow : W.ownsRow w.heap.size 3 1 (.slice oa om oc) om (OL.map (Value.int .i64)) := by
        have h9 : FreshInts w.heap.size W oa oc OL := hC.row HS.out.2.2.2.2.2.1 (fun _ _ => by simp)
        unfold FreshInts at h9
        rw [← HS.out.2.2.2.2.2.2.1] at h9
        exact h9
       have hnews : ∀ j u, (FV.map (Value.int .i64))[j]? = some u → W.cell? ((⟨g51, 0, none⟩ : Addr).add j) = some u := World.ownsRow.cells f8 (g := g51) rfl
       have hbs : w.heap.size ≤ W.heap.size := (HS.out.1.tr hC).size
       have hom : om ≤ 2048 := HS.out.2.2.2.2.2.2.2.1
       refine wpOp_at rfl rfl ?_
       refine wpOper_append_own_at _ _ 34 rfl w.heap.size 3 i0 _ 1 8 Tryz.underlying34 hi0 hz0 hz1 hz2 rfl (by decide) (.slice oa om oc) om (OL.map (Value.int .i64)) rfl hrow ⟨g51, 0, none⟩ l51 c51 (FV.map (Value.int .i64)) rfl (by rw [List.length_map, Nat.mul_one]; exact e8.symm) hnews (by intro u hu; obtain ⟨z, _, rfl⟩ := List.mem_map.1 hu; rfl) (by simp only [maxLen]; omega) (by omega) hbs ?_
       intro v' w8 h81 h82 h83
       obtain ⟨a8, c8, rfl⟩ := ownsRow_slice h81
       have HW := Lib.hid (And.intro h81 (And.intro h82 (And.intro hrow (And.intro e8 (And.intro (HS.out.1.tr hC) (And.intro (hC.heap HS.out.2.1 (by simp)) (hC.heap HS.out.2.2.2.2.2.2.2.2.1 (by simp))))))))
       clear h81 h82 h83 hrow hnews hbs e8 f8 hFV hom hC
       refine wpOp_at rfl rfl ?_
       go_simp
       go_wp2_with fail
       go_roundg (nk - (j + 1 + 1))
       case measure => omega
       case rel =>
        have hg : Chg [] w w8 := HW.out.2.2.2.2.1.grown HW.out.2.1 (fun k hk => .inr (by have := (row_beyond HW.out.2.2.1 hk).1; omega))
        have hb1 := grown_heap HW.out.2.1 (HW.out.2.2.2.2.2.1) (ownsRow_ne HW.out.2.2.1 HW.out.2.2.2.2.2.1 (by decide))
        have hb2 := grown_heap HW.out.2.1 (HW.out.2.2.2.2.2.2) (ownsRow_ne HW.out.2.2.1 HW.out.2.2.2.2.2.2 (by decide))
        have he := HW.out.2.2.2.1
        have ho := HS.out.2.2.2.2.2.2.1
        have hrw := HW.out.1
        rw [← List.map_append] at hrw
        have hln : om + l51 = (OL ++ FV).length := by rw [List.length_append, ← he, ← ho]
        exact ⟨j + 1 + 1, om + l51, c8, a8, rfl, by omega, by go_num, rfl, Lib.hid ⟨OL ++ FV, hln, by unfold FreshInts; rw [← hln]; exact hrw, HS.out.2.2.2.2.2.2.2.2.2, hb1, hb2, hg⟩⟩
     | false =>
      have kx0 := cell_rg x0
      have kx1 := cell_rg x1
      have ky0 := cell_rg y0
      have ky8 := cell_rg y8
      clear x0 x1 y0 y1 y2 y3 y4 y5 y6 y7
      go_wp2_with fail
      refine wp_region_quiet_below (by kernel_rfl) (by kernel_rfl) ?_
      repeat (go_big_quiet_step (with_reducible exact cA _ _))
      refine wpQuiet_nil ?_
      intro w7 hw7
      have hc7 := chg_of_rg hw7
      have HS := Lib.hid hc7
      clear hc7 hw7 kx0 kx1 ky0 ky8 y8 hg9 hj1 hjn kkj cA
      go_wp2_with fail
      go_ret
      have hT := HJ.out.1 (by first | rfl | trivial)
      exact ⟨oa, om, oc, rfl, by rw [hT]; exact HO.out.1, by rw [hT]; exact HS.out.row HO.out.2.1 (fun _ _ => by simp), HO.out.2.2.2.2.2.tr HS.out⟩
   ·have h69 : (xk == 6) = false := by simpa using h6
    have kx0 := cell_rg x0
    have kx1 := cell_rg x1
    have ky0 := cell_rg y0
    have ky8 := cell_rg y8
    clear x0 x1 y0 y1 y2 y3 y4 y5 y6 y7
    go_wp2_with fail
    refine wp_region_quiet_below (by kernel_rfl) (by kernel_rfl) ?_
    repeat (go_big_quiet_step (fail))
    refine wpQuiet_nil ?_
    intro w7 hw7
    have hc7 := chg_of_rg hw7
    have HS := Lib.hid (And.intro (HO.out.2.2.2.2.2.tr hc7) (And.intro (hc7.heap HO.out.2.2.2.1 (by simp)) (And.intro (cells9 (hc7.heap HO.out.2.2.2.2.1 (by simp))).2.2.2.2.2.2.2.2 (And.intro (hc7.cell HQ.out.2.2.1 (by simp)) (And.intro HQ.out.2.1 (And.intro (hc7.row HO.out.2.1 (fun _ _ => by simp)) (And.intro HO.out.1 (And.intro HQ.out.2.2.2.1 (And.intro (hc7.heap HO.out.2.2.2.2.1 (by simp)) (HQ.out.2.2.2.2.1 (fun h => h6 h.2.1)))))))))))
    have HR : Hid (∀ W, Chg [] w7 W → Calls Tryz.prog 117 #[.agg #[.slice a1 n1 c1, .slice (some ⟨bn, on, none⟩) n2 c2], .int .i64 kv, .slice az nz cz] W (ToldInts W FV)) := Lib.hid fun W hW => HQ.out.1 W (hc7.tr hW)
    clear hc7 hw7 kx0 kx1 ky0 ky8 y8 h69
    obtain ⟨ws, rfl⟩ : ∃ wz, wz = w7 := ⟨_, rfl⟩
    go_wp2_with fail
    refine wp_region_tail2 (by kernel_rfl) (by kernel_rfl) [43, 44, 45, 46, 47, 48, 49, 50, 51] (by kernel_rfl) (fun rI rV rW => match rI with | 0 => rV = .slice oa om oc | 1 => rV = .agg #[.slice a1 n1 c1, .slice (some ⟨bn, on, none⟩) n2 c2] | 2 => rV = .pointer (some ⟨BX, 8, none⟩) | 3 => rV = .slice (some ⟨bk, ok, none⟩) nk ck | 4 => rV = .int .i64 (i : Int) | 5 => rV = .pointer (some ⟨bk, ok + i, none⟩) | 6 => rV = .int .i64 kv | 7 => rV = .slice az nz cz | 8 => ∃ r51 l51 c51, rV = .slice r51 l51 c51 ∧ l51 = FV.length ∧ FreshInts ws.heap.size rW r51 c51 FV | _ => True) ?hS8 ?hstep8 ?hdone8
    case hS8 =>
     intro rI rV rW rW' hc rP
     match rI, rP with
     | 0, rP => exact rP
     | 1, rP => exact rP
     | 2, rP => exact rP
     | 3, rP => exact rP
     | 4, rP => exact rP
     | 5, rP => exact rP
     | 6, rP => exact rP
     | 7, rP => exact rP
     | 8, rP => exact (by obtain ⟨r51, l51, c51, e9, hp⟩ := rP; exact ⟨r51, l51, c51, e9, ⟨hp.1, hc.row hp.2 (fun _ _ => by simp)⟩⟩)
     | _ + 9, _ => trivial
    case hstep8 =>
     intro rI rH us W hC hdep K hK
     have hiN : rI < 9 := rH
     simp only [actU, Act.put, List.setIfInBounds_toArray, List.set_cons_succ, List.set_cons_zero, Nat.reduceAdd] at hK ⊢
     obtain ⟨x0, x1⟩ := cells2 (hC.heap HS.out.2.1 (by simp))
     have y8 := hC.cell HS.out.2.2.1 (by simp)
     have hkc := hC.cell HS.out.2.2.2.1 (by simp)
     rcases (show rI = 0 ∨ rI = 1 ∨ rI = 2 ∨ rI = 3 ∨ rI = 4 ∨ rI = 5 ∨ rI = 6 ∨ rI = 7 ∨ rI = 8 by omega) with rfl | rfl | rfl | rfl | rfl | rfl | rfl | rfl | rfl
     ·simp only [List.getD_cons_succ, List.getD_cons_zero, List.setIfInBounds_toArray, List.set_cons_succ, List.set_cons_zero] at hK ⊢
      refine wpOp_at rfl rfl ?_
      go_simp
      exact hK _ _ _ rfl (Chg.refl _ _) rfl
     ·simp only [List.getD_cons_succ, List.getD_cons_zero, List.setIfInBounds_toArray, List.set_cons_succ, List.set_cons_zero] at hK ⊢
      refine wpOp_at rfl rfl ?_
      go_simp
      exact hK _ _ _ rfl (Chg.refl _ _) rfl
     ·simp only [List.getD_cons_succ, List.getD_cons_zero, List.setIfInBounds_toArray, List.set_cons_succ, List.set_cons_zero] at hK ⊢
      refine wpOp_at rfl rfl ?_
      go_simp
      exact hK _ _ _ rfl (Chg.refl _ _) rfl
     ·have l2 := hdep 2 (by kernel_rfl)
      replace l2 : us 2 = .pointer (some ⟨BX, 8, none⟩) := l2
      simp only [List.getD_cons_succ, List.getD_cons_zero, List.setIfInBounds_toArray, List.set_cons_succ, List.set_cons_zero, l2] at hK ⊢
      refine wpOp_at rfl rfl ?_
      go_simp
      exact hK _ _ _ rfl (Chg.refl _ _) rfl
     ·simp only [List.getD_cons_succ, List.getD_cons_zero, List.setIfInBounds_toArray, List.set_cons_succ, List.set_cons_zero] at hK ⊢
      refine wpOp_at rfl rfl ?_
      go_simp
      exact hK _ _ _ rfl (Chg.refl _ _) rfl
     ·have l3 := hdep 3 (by kernel_rfl)
      replace l3 : us 3 = .slice (some ⟨bk, ok, none⟩) nk ck := l3
      have l4 := hdep 4 (by kernel_rfl)
      replace l4 : us 4 = .int .i64 (i : Int) := l4
      simp only [List.getD_cons_succ, List.getD_cons_zero, List.setIfInBounds_toArray, List.set_cons_succ, List.set_cons_zero, l3, l4] at hK ⊢
      refine wpOp_at rfl rfl ?_
      go_simp
      exact hK _ _ _ rfl (Chg.refl _ _) rfl
     ·have l5 := hdep 5 (by kernel_rfl)
      replace l5 : us 5 = .pointer (some ⟨bk, ok + i, none⟩) := l5
      simp only [List.getD_cons_succ, List.getD_cons_zero, List.setIfInBounds_toArray, List.set_cons_succ, List.set_cons_zero, l5] at hK ⊢
      refine wpOp_at rfl rfl ?_
      go_simp
      exact hK _ _ _ rfl (Chg.refl _ _) rfl
     ·simp only [List.getD_cons_succ, List.getD_cons_zero, List.setIfInBounds_toArray, List.set_cons_succ, List.set_cons_zero] at hK ⊢
      refine wpOp_at rfl rfl ?_
      go_simp
      exact hK _ _ _ rfl (Chg.refl _ _) rfl
     ·have l1 := hdep 1 (by kernel_rfl)
      replace l1 : us 1 = .agg #[.slice a1 n1 c1, .slice (some ⟨bn, on, none⟩) n2 c2] := l1
      have l6 := hdep 6 (by kernel_rfl)
      replace l6 : us 6 = .int .i64 kv := l6
      have l7 := hdep 7 (by kernel_rfl)
      replace l7 : us 7 = .slice az nz cz := l7
      simp only [List.getD_cons_succ, List.getD_cons_zero, List.setIfInBounds_toArray, List.set_cons_succ, List.set_cons_zero, l1, l6, l7] at hK ⊢
      refine wpOp_at rfl rfl ?_
      go_simp
      refine (HR.out W hC).mono ?_
      rintro e wz ⟨r51, l51, c51, rfl, e51, f51, hz⟩
      exact hK _ _ _ rfl hz ⟨r51, l51, c51, rfl, ⟨e51, row_base f51 hC.size⟩⟩
    case hdone8 =>
     intro us W hC hall
     have l0 := hall 0 (by decide)
     replace l0 : us 0 = .slice oa om oc := l0
     have l1 := hall 1 (by decide)
     replace l1 : us 1 = .agg #[.slice a1 n1 c1, .slice (some ⟨bn, on, none⟩) n2 c2] := l1
     have l2 := hall 2 (by decide)
     replace l2 : us 2 = .pointer (some ⟨BX, 8, none⟩) := l2
     have l3 := hall 3 (by decide)
     replace l3 : us 3 = .slice (some ⟨bk, ok, none⟩) nk ck := l3
     have l4 := hall 4 (by decide)
     replace l4 : us 4 = .int .i64 (i : Int) := l4
     have l5 := hall 5 (by decide)
     replace l5 : us 5 = .pointer (some ⟨bk, ok + i, none⟩) := l5
     have l6 := hall 6 (by decide)
     replace l6 : us 6 = .int .i64 kv := l6
     have l7 := hall 7 (by decide)
     replace l7 : us 7 = .slice az nz cz := l7
     have l8 := hall 8 (by decide)
     obtain ⟨r51, l51, c51, l8, p8⟩ := l8
     simp only [actU, Act.put, List.setIfInBounds_toArray, List.set_cons_succ, List.set_cons_zero, Nat.reduceAdd, l0, l1, l2, l3, l4, l5, l6, l7, l8]
     clear hall l0 l1 l2 l3 l4 l5 l6 l7 l8
     obtain ⟨e8, f8⟩ := p8
     have hFV : 0 < FV.length ∧ FV.length ≤ 2048 := HS.out.2.2.2.2.1
     obtain ⟨g51, rfl⟩ : ∃ g, r51 = some ⟨g, 0, none⟩ := by
      rcases f8.2 with ⟨h0, h1⟩ | ⟨g, cap, cur, h0, _⟩
      ·omega
      ·cases h0; exact ⟨g, rfl⟩
     have hrow : W.ownsRow w.heap.size 3 1 (.slice oa om oc) om (OL.map (Value.int .i64)) := by
      have h9 : FreshInts w.heap.size W oa oc OL := hC.row HS.out.2.2.2.2.2.1 (fun _ _ => by simp)
      unfold FreshInts at h9
      rw [← HS.out.2.2.2.2.2.2.1] at h9
      exact h9
     have hnews : ∀ j u, (FV.map (Value.int .i64))[j]? = some u → W.cell? ((⟨g51, 0, none⟩ : Addr).add j) = some u := World.ownsRow.cells f8 (g := g51) rfl
     have hbs : w.heap.size ≤ W.heap.size := (HS.out.1.tr hC).size
     have hom : om ≤ 2048 := HS.out.2.2.2.2.2.2.2.1
     refine wpOp_at rfl rfl ?_
     refine wpOper_append_own_at _ _ 34 rfl w.heap.size 3 i0 _ 1 8 Tryz.underlying34 hi0 hz0 hz1 hz2 rfl (by decide) (.slice oa om oc) om (OL.map (Value.int .i64)) rfl hrow ⟨g51, 0, none⟩ l51 c51 (FV.map (Value.int .i64)) rfl (by rw [List.length_map, Nat.mul_one]; exact e8.symm) hnews (by intro u hu; obtain ⟨z, _, rfl⟩ := List.mem_map.1 hu; rfl) (by simp only [maxLen]; omega) (by omega) hbs ?_
     intro v' w8 h81 h82 h83
     obtain ⟨a8, c8, rfl⟩ := ownsRow_slice h81
     have HW := Lib.hid (And.intro h81 (And.intro h82 (And.intro hrow (And.intro e8 (And.intro (HS.out.1.tr hC) (And.intro (hC.heap HS.out.2.1 (by simp)) (hC.heap HS.out.2.2.2.2.2.2.2.2.1 (by simp))))))))
     clear h81 h82 h83 hrow hnews hbs e8 f8 hFV hom hC
     refine wpOp_at rfl rfl ?_
     go_simp
     go_wp2_with fail
     go_roundg (nk - (i + 1))
     case measure => omega
     case rel =>
      have hg : Chg [] w w8 := HW.out.2.2.2.2.1.grown HW.out.2.1 (fun k hk => .inr (by have := (row_beyond HW.out.2.2.1 hk).1; omega))
      have hb1 := grown_heap HW.out.2.1 (HW.out.2.2.2.2.2.1) (ownsRow_ne HW.out.2.2.1 HW.out.2.2.2.2.2.1 (by decide))
      have hb2 := grown_heap HW.out.2.1 (HW.out.2.2.2.2.2.2) (ownsRow_ne HW.out.2.2.1 HW.out.2.2.2.2.2.2 (by decide))
      have he := HW.out.2.2.2.1
      have ho := HS.out.2.2.2.2.2.2.1
      have hrw := HW.out.1
      rw [← List.map_append] at hrw
      have hln : om + l51 = (OL ++ FV).length := by rw [List.length_append, ← he, ← ho]
      exact ⟨i + 1, om + l51, c8, a8, rfl, by omega, by go_num, rfl, Lib.hid ⟨OL ++ FV, hln, by unfold FreshInts; rw [← hln]; exact hrw, HS.out.2.2.2.2.2.2.2.2.2, hb1, hb2, hg⟩⟩
  ·obtain rfl : i = nk := by omega
   have hT : T = OL := by
    have := HO.out.2.2.1
    rw [H.out.2.2.1, restO_end, List.append_nil] at this
    exact this
   have HT := Lib.hid hT
   clear hT
   go_wp2_with fail
   go_ret
   exact ⟨oa, om, oc, rfl, by rw [HT.out]; exact HO.out.1, by rw [HT.out]; exact HO.out.2.1, HO.out.2.2.2.2.2⟩
end Go.Proofs.YtlklmpjakeedcaaGreatDoor

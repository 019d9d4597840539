/-
 whole: a right grammar's table, or none: the walk.
 Conditions: the grammar reads as data (GramAt).
-/
import Derived.Test.YtlklmpjakeedcaaGreatDoorSEnGOf
import Derived.Test.YtlklmpjakeedcaaGreatDoorSEnGNode
import Derived.Test.YtlklmpjakeedcaaGreatDoorSEnGName
import Derived.Test.YtlklmpjakeedcaaGreatDoorSEnGRule
set_option linter.unusedVariables false
set_option linter.unusedSimpArgs false
namespace Go.Proofs.YtlklmpjakeedcaaGreatDoor
open Go.RowKit Go.MapKept Go.Shelf

theorem idxI_any {α : Type} (l : List α) (p : α → Bool) : decide (0 ≤ idxI l p) = l.any p := by
 unfold idxI
 by_cases h : l.findIdx p < l.length
 ·rw [if_pos h]
  have h1 : l.any p = true := List.any_eq_true.2 ⟨_, List.getElem_mem h, List.findIdx_getElem (w := h)⟩
  rw [h1]; simp
 ·rw [if_neg h]
  have h1 : l.any p = false := by
   rw [List.any_eq_false]
   intro x hx
   have := List.findIdx_eq_length.1 (Nat.le_antisymm List.findIdx_le_length (Nat.le_of_not_lt h)) x hx
   simpa using this
  rw [h1]; simp

set_option maxRecDepth 100000 in
set_option maxHeartbeats 1000000 in
theorem containsNodes_any (w : World) (a : Option Addr) (n c : Nat) (ns : List Nd) (g : Nat) (lb : Array Value) (p : Nd → Bool) (hn : n = ns.length) (hs : n ≤ 9223372036854775807) (hr : Nodes w a ns)
  (hp : ∀ i (h : i < ns.length) b o ak nk ck, NodeAt w b o ns[i] ak nk ck → ∀ w1, Chg [] w w1 → Calls Tryz.prog g (#[.agg (ns[i].cells ak nk ck)] ++ lb) w1 fun e w2 => e = .returned (.bool (p ns[i])) ∧ Chg [] w1 w2)
  (eg : ∀ args w, (callFunc g args).run Tryz.prog w = .ok (.enter g args) w) :
  Calls Tryz.prog 65 #[.slice a n c, .func (.func g) #[] lb] w fun e w' => e = .returned (.bool (ns.any p)) ∧ Chg [] w w' := by
 have hI := idxNodes_any w a n c ns g lb p hn hs hr hp eg
 have hd := idxI_any ns p
 obtain ⟨I, hI2⟩ : ∃ I, idxI ns p = I := ⟨_, rfl⟩
 obtain ⟨r, hr2⟩ : ∃ r, ns.any p = r := ⟨_, rfl⟩
 rw [hI2] at hI hd
 rw [hr2] at hd ⊢
 have HH := Lib.hid (And.intro hI hd)
 clear hI hd hn hr hp hI2 hr2
 go_enter Tryz.func65, Tryz.ntmps65
 go_wp2_with fail
 refine HH.out.1.mono ?_
 rintro e w1 ⟨rfl, hc⟩
 have HC := Lib.hid hc
 clear hc
 go_wp2
 go_ret
 exact ⟨ret_bool (by rw [← HH.out.2]), HC.out⟩

set_option maxRecDepth 100000 in
set_option maxHeartbeats 1000000 in
theorem whole1_any (w : World) (x : Nd) (ak : Option Addr) (nk ck B : Nat) (a1 : Option Addr) (n1 c1 : Nat) (hk : I64 x.k) (hl : nk = x.kids.length) (hc : w.cell? ⟨B, 0, none⟩ = some (.slice a1 n1 c1)) (hs : n1 ≤ 9223372036854775807) :
  Calls Tryz.prog 66 #[.agg (x.cells ak nk ck), .pointer (some ⟨B, 0, none⟩)] w fun e w' => e = .returned (.bool (!nodeB x (n1 : Int))) ∧ Chg [] w w' := by
 have hb : nodeB x (n1 : Int) = nodeN x.k x.c0 x.c1 x.c2 x.c3 x.r x.l n1 x.s nk := by unfold nodeB; rw [hl]
 rw [hb]
 have hB := World.block_lt_of_cell? _ _ hc
 simp only at hB
 obtain ⟨k, c0, c1', c2, c3, s, r, l, kids⟩ := x
 unfold Nd.cells
 dsimp only at hk ⊢
 clear hb hl
 have HK := Lib.hid hk
 clear hk
 go_enter Tryz.func66, Tryz.ntmps66
 go_wp2_with fail
 refine (Node_any _ k c0 c1' c2 c3 r l n1 s ak nk ck HK.out).mono ?_
 rintro e w1 ⟨rfl, hc1⟩
 have H1 := Lib.hid hc1
 clear hc1
 go_wp2
 go_ret
 exact ⟨rfl, ((Chg.refl _ _).alloc _).tr H1.out⟩

def WholePost (g : Gr) (w : World) (e : Ending) (w' : World) : Prop :=
 ∃ a1 n1 c1 a2 n2 c2, e = .returned (.tuple #[.agg #[.slice a1 n1 c1, .slice a2 n2 c2], .bool (wholeT g).isSome]) ∧ Chg [] w w' ∧ (∀ t, wholeT g = some t → TreeInts w' a1 n1 a2 n2 t)
theorem ints_set {w : World} {a : Option Addr} {zs : List Int} {T : Nat} {v0 v1 : Value} {ty : TypeId} {m : Nat × Nat} (h : Ints w a zs) (hT : w.heap[T]? = some (.cells #[v0, v1] ty m)) (h0 : ∀ x, v0 ≠ .int .i64 x) (h1 : ∀ x, v1 ≠ .int .i64 x) (i : Nat) (u : Value) : Ints (w.setCell ⟨T, i, none⟩ u) a zs := by
 intro j hj
 obtain ⟨b, o, e1, e2⟩ := h j hj
 refine ⟨b, o, e1, ?_⟩
 have hne : b ≠ T := by
  intro e
  subst e
  rw [cell_of_cells hT] at e2
  generalize o + j = k at e2
  match k with
  | 0 => simp at e2; exact h0 _ e2
  | 1 => simp at e2; exact h1 _ e2
  | k + 2 => simp at e2
 rw [World.cell?_of_block (w := w) (Below.heap_setCell _ _ _ _ (fun e => hne (by simpa using e)))]
 exact e2

structure WholeAt (w : World) (G T : Nat) (a1 : Option Addr) (n1 c1 : Nat) (a2 : Option Addr) (n2 c2 : Nat) (s1 : Option Addr) (m1 d1 : Nat) (s2 : Option Addr) (m2 d2 : Nat) (g : Gr) (wr : World) : Prop where
 gb : wr.heap[G]? = some (.cells #[.slice a1 n1 c1, .slice a2 n2 c2] 31 (0, 0))
 tb : wr.heap[T]? = some (.cells #[.slice s1 m1 d1, .slice s2 m2 d2] 67 (0, 0))
 tr : ∀ t, tab g.nodes = some t → TreeInts wr s1 m1 s2 m2 t
 ch : Chg [] w wr
theorem WholeAt.keep {w wr w' : World} {G T : Nat} {a1 : Option Addr} {n1 c1 : Nat} {a2 : Option Addr} {n2 c2 : Nat} {s1 : Option Addr} {m1 d1 : Nat} {s2 : Option Addr} {m2 d2 : Nat} {g : Gr} (h : WholeAt w G T a1 n1 c1 a2 n2 c2 s1 m1 d1 s2 m2 d2 g wr) (hc : Chg [] wr w') : WholeAt w G T a1 n1 c1 a2 n2 c2 s1 m1 d1 s2 m2 d2 g w' :=
 ⟨hc.heap h.gb (by simp), hc.heap h.tb (by simp), fun t ht => (h.tr t ht).keep hc.kp, h.ch.tr hc⟩
theorem TreeInts.set {w : World} {a1 a2 : Option Addr} {n1 n2 : Nat} {t : List (Nat × Nat)} {T : Nat} {x1 x2 : Option Addr} {p1 p2 q1 q2 : Nat} {ty : TypeId} {m : Nat × Nat} (h : TreeInts w a1 n1 a2 n2 t) (hT : w.heap[T]? = some (.cells #[.slice x1 p1 q1, .slice x2 p2 q2] ty m)) (i : Nat) (u : Value) : TreeInts (w.setCell ⟨T, i, none⟩ u) a1 n1 a2 n2 t :=
 ⟨h.1, h.2.1, ints_set h.2.2.1 hT (by simp) (by simp) i u, ints_set h.2.2.2 hT (by simp) (by simp) i u⟩
/-- Both cells of a tree's block, one behind the other. -/
theorem two_set {w : World} {T : Nat} {v0 v1 x0 x1 : Value} {ty : TypeId} (hT : w.heap[T]? = some (.cells #[v0, v1] ty (0, 0))) : ((w.setCell ⟨T, 0, none⟩ x0).setCell ⟨T, 1, none⟩ x1).heap[T]? = some (.cells #[x0, x1] ty (0, 0)) := by
 have h1 := heap_setCell_same hT 0 x0
 have h2 := heap_setCell_same h1 1 x1
 simpa using h2
theorem tree_two {w : World} {a1 a2 : Option Addr} {n1 n2 : Nat} {t : List (Nat × Nat)} {T : Nat} {x1 x2 : Option Addr} {p1 p2 q1 q2 : Nat} {ty : TypeId} (h : TreeInts w a1 n1 a2 n2 t) (hT : w.heap[T]? = some (.cells #[.slice x1 p1 q1, .slice x2 p2 q2] ty (0, 0))) (y1 y2 : Option Addr) (r1 r2 l1 l2 : Nat) :
  TreeInts ((w.setCell ⟨T, 0, none⟩ (.slice y1 r1 l1)).setCell ⟨T, 1, none⟩ (.slice y2 r2 l2)) a1 n1 a2 n2 t := by
 have h1 := heap_setCell_same hT 0 (.slice y1 r1 l1)
 have h2 := h.set hT 0 (.slice y1 r1 l1)
 exact h2.set (x1 := y1) (p1 := r1) (q1 := l1) (x2 := x2) (p2 := p2) (q2 := q2) (by simpa using h1) 1 _
theorem chainT_at {g : Gr} {t : List (Nat × Nat)} {k x : Nat} (hk : k < g.rules.length) : chainT g t (g.rules.drop k) k x = if nameB g.rules[k].name && decide (ruleI g.rules g.rules[k].name = (k : Int)) && decide (g.rules[k].body = (x : Int)) then
   (match t[x]? with | none => none | some (z, h) => if h ≤ 16 then chainT g t (g.rules.drop (k + 1)) (k + 1) (x + z) else none) else none := by
 rw [List.drop_eq_getElem_cons hk]
 rfl
theorem whole_bad {g : Gr} {t : List (Nat × Nat)} (ht : tab g.nodes = some t) (hc : chainT g t g.rules 0 0 = none) : wholeT g = none := by
 unfold wholeT
 split
 ·rw [ht]; simp only [hc]; simp
 ·rfl
theorem whole_no {g : Gr} (ht : tab g.nodes = none) : wholeT g = none := by
 unfold wholeT
 split
 ·rw [ht]
 ·rfl

set_option maxRecDepth 100000 in
set_option maxHeartbeats 6000000 in
theorem whole_any (w : World) (a1 : Option Addr) (n1 c1 : Nat) (a2 : Option Addr) (n2 c2 : Nat) (g : Gr) (hg : GramAt w a1 n1 c1 a2 n2 c2 g) :
  Calls Tryz.prog 38 #[.agg #[.slice a1 n1 c1, .slice a2 n2 c2]] w (WholePost g w) := by
 have hsm := hg.small
 obtain ⟨hs1, hs2⟩ := hsm
 have HG := Lib.hid hg
 by_cases hsz : 1 ≤ n1 ∧ n1 ≤ 32 ∧ n2 ≤ 2048
 ·obtain ⟨z1, z2, z3⟩ := hsz
  have HS : Hid (sizesB g = true) := Lib.hid (by unfold sizesB; rw [← hg.e1, ← hg.e2]; simp [z1, z2, z3])
  clear hg
  have k0 : ((n1 : Int) == 0) = false := by simp; omega
  have k1 : decide (32 < (n1 : Int)) = false := by simp; omega
  have k2 : decide (2048 < (n2 : Int)) = false := by simp; omega
  go_enter Tryz.func38, Tryz.ntmps38
  go_wp2_with fail
  have hG := heap_alloc_lt (heap_alloc_same w (.cells #[.slice a1 n1 c1, .slice a2 n2 c2] 31)) (.cells #[.slice none 0 0, .slice none 0 0] 67)
  have hT := heap_alloc_same (w.alloc (.cells #[.slice a1 n1 c1, .slice a2 n2 c2] 31)) (.cells #[.slice none 0 0, .slice none 0 0] 67)
  have hc0 : Chg [] w ((w.alloc (.cells #[.slice a1 n1 c1, .slice a2 n2 c2] 31)).alloc (.cells #[.slice none 0 0, .slice none 0 0] 67)) := ((Chg.refl _ _).alloc _).alloc _
  rw [World.size_alloc] at hT
  have hfun := containsNodes_any ((w.alloc (.cells #[.slice a1 n1 c1, .slice a2 n2 c2] 31)).alloc (.cells #[.slice none 0 0, .slice none 0 0] 67)) a2 n2 c2 g.nodes 66 #[.pointer (some ⟨w.heap.size, 0, none⟩)] (fun x => !nodeB x (n1 : Int)) HG.out.e2 hs2 (HG.out.nodes.keep hc0.kp)
   (fun i hi b o ak nk ck hx w1 h1 => whole1_any w1 g.nodes[i] ak nk ck w.heap.size a1 n1 c1 (HG.out.wf.nodes _ (List.getElem_mem hi)).k hx.len (h1.cell (cells2 hG).1 (by simp)) hs1) (enters_of Tryz.func66 (by kernel_rfl) rfl)
  have H0 := Lib.hid (And.intro hG (And.intro hT (And.intro hc0 hfun)))
  clear hG hT hc0 hfun
  refine H0.out.2.2.2.mono ?_
  rintro e w1 ⟨rfl, hc1⟩
  have h1 := hc1.heap H0.out.1 (by simp)
  have h2 := hc1.heap H0.out.2.1 (by simp)
  obtain ⟨x0, x1⟩ := cells2 h1
  obtain ⟨y0, y1⟩ := cells2 h2
  have q0 := free_of_cells h2 0
  have q1 := free_of_cells h2 1
  have hGl := lt_of_block h1
  have hTl := lt_of_block h2
  have H1 := Lib.hid (And.intro h1 (And.intro h2 (H0.out.2.2.1.tr hc1)))
  clear h1 h2 hc1
  cases hany : g.nodes.any fun x => !nodeB x (n1 : Int)
  ·have hall : allB g = true := by
    unfold allB
    rw [List.all_eq_true]
    rw [List.any_eq_false] at hany
    intro x hx
    have := hany x hx
    rw [← HG.out.e1]
    simpa using this
   have HA := Lib.hid hall
   clear hall hany
   go_wp2_with fail
   refine (of_any _ a2 n2 c2 g.nodes HG.out.e2 (by omega) (HG.out.nodes.keep H1.out.2.2.kp) (fun x hx => (HG.out.wf.nodes x hx).kids)).mono ?_
   rintro e w2 ⟨s1, m1, d1, s2, m2, d2, rfl, hc2, ht⟩
   have h1 := hc2.heap H1.out.1 (by simp)
   have h2 := hc2.heap H1.out.2.1 (by simp)
   have hGl2 := lt_of_block h1
   have hTl2 := lt_of_block h2
   obtain ⟨u0, u1⟩ := cells2 h2
   have v0 := free_of_cells h2 0
   have v1 := free_of_cells h2 1
   have H2 := Lib.hid (And.intro h1 (And.intro h2 (And.intro (H1.out.2.2.tr hc2) ht)))
   clear h1 h2 hc2 ht x0 x1 y0 y1 q0 q1
   obtain ⟨x0, x1⟩ := cells2 H2.out.1
   go_wp2_with fail
   obtain ⟨is, his⟩ : ∃ is, is = (tab g.nodes).isSome := ⟨_, rfl⟩
   rw [← his]
   have HI := Lib.hid his
   clear his
   go_loopg [38, 4, 3] n1 (fun d kv xv tv wr => ∃ k x : Nat, d = n1 - k ∧ k ≤ n1 ∧ kv = .int .i64 k ∧ xv = .int .i64 x ∧ tv = .bool is ∧ x ≤ n2 ∧ Hid (WholeAt w w.heap.size (w.heap.size + 1) a1 n1 c1 a2 n2 c2 s1 m1 d1 s2 m2 d2 g wr ∧ (∀ t, tab g.nodes = some t → chainT g t g.rules 0 0 = chainT g t (g.rules.drop k) k x) ∧ (tab g.nodes = none → k = 0)))
   case atStart =>
    obtain ⟨h1, h2, h3, h4⟩ := H2.out
    exact ⟨0, 0, rfl, Nat.zero_le _, rfl, rfl, rfl, Nat.zero_le _, Lib.hid ⟨⟨heap_set_ne (heap_set_ne h1 (by omega)) (by omega), two_set h2, fun t ht => tree_two (h4 t ht) h2 _ _ _ _ _ _, (h3.setCell (.inr (by simp)) _).setCell (.inr (by simp)) _⟩, fun t _ => by simp, fun _ => rfl⟩⟩
   case round =>
    obtain ⟨k, x, rfl, hk, rfl, rfl, rfl, hx2, hin⟩ := hrel
    obtain ⟨wq, rfl⟩ : ∃ wq : World, wq = wr := ⟨_, rfl⟩
    clear u0 u1 v0 v1 x0 x1
    have hat := hin.out.1
    obtain ⟨x0, x1⟩ := cells2 hat.gb
    obtain ⟨y0, y1⟩ := cells2 hat.tb
    have f0 := free_of_cells hat.tb 0
    have f1 := free_of_cells hat.tb 1
    have hGl3 := lt_of_block hat.gb
    have hTl3 := lt_of_block hat.tb
    clear hat
    by_cases hlt : k < n1
    ·have hkl : k < g.rules.length := by have := HG.out.e1; omega
     obtain ⟨b, o, rfl, r0, r1⟩ := (HG.out.rules.keep hin.out.1.ch.kp) k hkl
     have hbr := World.block_lt_of_cell? _ _ r0
     simp only at hbr
     have hnm := HG.out.wf.names _ (List.getElem_mem hkl)
     have hch := fun t => chainT_at (g := g) (t := t) (x := x) hkl
     obtain ⟨r, hr⟩ : ∃ r, r = g.rules[k] := ⟨_, rfl⟩
     rw [← hr] at r0 r1 hnm
     have HR : Hid (∀ t, chainT g t (g.rules.drop k) k x = if nameB r.name && decide (ruleI g.rules r.name = (k : Int)) && decide (r.body = (x : Int)) then
       (match t[x]? with | none => none | some (z, h) => if h ≤ 16 then chainT g t (g.rules.drop (k + 1)) (k + 1) (x + z) else none) else none) := Lib.hid (by intro t; rw [hr]; exact hch t)
     clear hch hr
     obtain ⟨nm, bd⟩ := r
     dsimp only at r0 r1 hnm HR
     cases is with
     | false =>
      have htab : tab g.nodes = none := by have := HI.out; cases h : tab g.nodes with | none => rfl | some t => rw [h] at this; cases this
      have HT := Lib.hid htab
      clear htab
      go_wp2_with fail
      refine bodyPost_ret (v := .tuple #[.agg #[.slice s1 m1 d1, .slice s2 m2 d2], .bool false]) (by simp [results, Tryz.results38, go_sem, y0, y1, hTl3]) rfl ?_
      exact ⟨_, _, _, _, _, _, by rw [whole_no HT.out]; rfl, (((hin.out.1.ch.setCell (p := ⟨w.heap.size + 1, 0, none⟩) (.inr (Nat.le_succ _)) _).setCell (p := ⟨w.heap.size + 1, 1, none⟩) (.inr (Nat.le_succ _)) _).alloc _), fun t' ht' => by rw [whole_no HT.out] at ht'; cases ht'⟩
     | true =>
      obtain ⟨t, htab⟩ : ∃ t, tab g.nodes = some t := Option.isSome_iff_exists.1 HI.out.symm
      have HT := Lib.hid htab
      clear htab
      go_wp2_with fail
      have hR := heap_alloc_same wq (.cells #[.string nm, .int .i64 bd] 53)
      refine (Name_any nm _ hnm).mono ?_
      rintro e w3 ⟨rfl, hc3⟩
      have HW := Lib.hid ((hin.out.1.keep ((Chg.refl _ _).alloc (.cells #[.string nm, .int .i64 bd] 53))).keep hc3)
      have hR3 := hc3.heap hR (by simp)
      obtain ⟨p0, p1⟩ := cells2 hR3
      have HR3 := Lib.hid hR3
      clear hR hR3 hc3 x0 x1 y0 y1 f0 f1
      obtain ⟨x0, x1⟩ := cells2 HW.out.gb
      obtain ⟨y0, y1⟩ := cells2 HW.out.tb
      have f0 := free_of_cells HW.out.tb 0
      have f1 := free_of_cells HW.out.tb 1
      have hTl4 := lt_of_block HW.out.tb
      cases hA : nameB nm with
      | false =>
       have HN : Hid (wholeT g = none) := Lib.hid (whole_bad HT.out (by rw [hin.out.2.1 t HT.out, HR.out t, hA]; simp))
       clear hA
       go_wp2_with fail
       refine bodyPost_ret (v := .tuple #[.agg #[.slice s1 m1 d1, .slice s2 m2 d2], .bool false]) (by simp [results, Tryz.results38, go_sem, y0, y1, hTl4]) rfl ?_
       exact ⟨_, _, _, _, _, _, by rw [HN.out]; rfl, ((HW.out.ch.setCell (.inr (by simp)) _).setCell (.inr (by simp)) _), fun t' ht' => by rw [HN.out] at ht'; cases ht'⟩
      | true =>
       have HA1 := Lib.hid hA
       clear hA
       go_wp2_with fail
       refine (Rule_any w3 _ n1 c1 a2 n2 c2 g.rules nm HG.out.e1 hs1 (HG.out.rules.keep HW.out.ch.kp)).mono ?_
       rintro e w4 ⟨rfl, hc4⟩
       have hR3 := hc4.heap HR3.out (by simp)
       have HW4 := Lib.hid (HW.out.keep hc4)
       clear p0 p1 x0 x1 y0 y1 f0 f1 hc4
       obtain ⟨p0, p1⟩ := cells2 hR3
       obtain ⟨x0, x1⟩ := cells2 HW4.out.gb
       obtain ⟨y0, y1⟩ := cells2 HW4.out.tb
       have f0 := free_of_cells HW4.out.tb 0
       have f1 := free_of_cells HW4.out.tb 1
       have hTl5 := lt_of_block HW4.out.tb
       clear hR3
       obtain ⟨I, hI⟩ : ∃ I, ruleI g.rules nm = I := ⟨_, rfl⟩
       rw [hI]
       have HI2 := Lib.hid hI
       clear hI
       have hm1 : m1 = n2 ∧ m2 = n2 ∧ t.length = n2 := by
        obtain ⟨e1, e2, _, _⟩ := HW4.out.tr t HT.out
        have := (tab_ok HT.out).1
        have := HG.out.e2
        omega
       obtain ⟨rfl, rfl, htl⟩ := hm1
       have HTL := Lib.hid htl
       clear htl
       have hfail : wholeT g = none → ∀ (w5 : World), Chg [] w w5 → WholePost g w (.returned (.tuple #[.agg #[.slice s1 m2 d1, .slice s2 m2 d2], .bool false])) w5 := fun hn w5 hc => ⟨_, _, _, _, _, _, by rw [hn]; rfl, hc, fun t' ht' => by rw [hn] at ht'; cases ht'⟩
       have HF := Lib.hid hfail
       clear hfail
       by_cases hB : I = (k : Int)
       ·have kB : (I != (k : Int)) = false := by simp [hB]
        have HB := Lib.hid hB
        clear hB
        by_cases hC : bd = (x : Int)
        ·have kC : (bd != (x : Int)) = false := by simp [hC]
         have HC := Lib.hid hC
         clear hC
         by_cases hD : x < m2
         ·obtain ⟨zz, hh, ht1, _, hb1, hb2⟩ := tabOk_le (tab_ok HT.out) (Nat.zero_le x) (by have := HG.out.e2; omega)
          simp only [Nat.sub_zero] at ht1
          obtain ⟨w1', w2', i1, i2⟩ := HW4.out.tr t HT.out
          clear w1' w2'
          have hxt : x < t.length := by have := HTL.out; omega
          obtain ⟨b1, o1, rfl, j1⟩ := i1 x (by simpa using hxt)
          obtain ⟨b2, o2, rfl, j2⟩ := i2 x (by simpa using hxt)
          have hget : t[x] = (zz, hh) := by have := List.getElem?_eq_getElem hxt; rw [ht1] at this; exact (Option.some.inj this).symm
          simp only [List.getElem_map, hget] at j1 j2
          have hbl1 := World.block_lt_of_cell? _ _ j1
          have hbl2 := World.block_lt_of_cell? _ _ j2
          simp only at hbl1 hbl2
          have hle : x + zz ≤ m2 := by have := HG.out.e2; omega
          have HT1 := Lib.hid (And.intro ht1 (And.intro hget hxt))
          clear ht1 hget i1 i2
          by_cases hE : hh ≤ 16
          ·have kE : decide (16 < (hh : Int)) = false := by simp; omega
           go_wp2_with fail
           go_roundg (n1 - (k + 1))
           case measure => omega
           case rel =>
            refine ⟨k + 1, x + zz, rfl, by omega, by go_num, by go_num, rfl, hle, Lib.hid ⟨HW4.out, fun t' ht' => ?_, fun h => by rw [HT.out] at h; cases h⟩⟩
            have : t' = t := by have := HT.out; rw [ht'] at this; exact Option.some.inj this
            subst this
            rw [hin.out.2.1 _ ht', HR.out, HA1.out, HI2.out, HB.out, HC.out, HT1.out.1]
            simp [hE]
          ·have kE : decide (16 < (hh : Int)) = true := by simp; omega
           have hn : wholeT g = none := whole_bad HT.out (by rw [hin.out.2.1 t HT.out, HR.out t, HT1.out.1]; simp [hE])
           go_wp2_with fail
           refine bodyPost_ret (v := .tuple #[.agg #[.slice (some ⟨b1, o1, none⟩) m2 d1, .slice (some ⟨b2, o2, none⟩) m2 d2], .bool false]) (by simp [results, Tryz.results38, go_sem, y0, y1, hTl5]) rfl ?_
           exact HF.out hn _ ((HW4.out.ch.setCell (p := ⟨w.heap.size + 1, 0, none⟩) (.inr (Nat.le_succ _)) _).setCell (p := ⟨w.heap.size + 1, 1, none⟩) (.inr (Nat.le_succ _)) _)
         ·have kD : decide ((m2 : Int) ≤ (x : Int)) = true := by simp; omega
          have hn : wholeT g = none := whole_bad HT.out (by
           have : t[x]? = none := by rw [List.getElem?_eq_none_iff]; have := HTL.out; omega
           rw [hin.out.2.1 t HT.out, HR.out t, this]; simp)
          go_wp2_with fail
          refine bodyPost_ret (v := .tuple #[.agg #[.slice s1 m2 d1, .slice s2 m2 d2], .bool false]) (by simp [results, Tryz.results38, go_sem, y0, y1, hTl5]) rfl ?_
          exact HF.out hn _ ((HW4.out.ch.setCell (p := ⟨w.heap.size + 1, 0, none⟩) (.inr (Nat.le_succ _)) _).setCell (p := ⟨w.heap.size + 1, 1, none⟩) (.inr (Nat.le_succ _)) _)
        ·have kC : (bd != (x : Int)) = true := by simpa using hC
         have hn : wholeT g = none := whole_bad HT.out (by rw [hin.out.2.1 t HT.out, HR.out t]; simp [hC])
         clear hC
         go_wp2_with fail
         refine bodyPost_ret (v := .tuple #[.agg #[.slice s1 m2 d1, .slice s2 m2 d2], .bool false]) (by simp [results, Tryz.results38, go_sem, y0, y1, hTl5]) rfl ?_
         exact HF.out hn _ ((HW4.out.ch.setCell (p := ⟨w.heap.size + 1, 0, none⟩) (.inr (Nat.le_succ _)) _).setCell (p := ⟨w.heap.size + 1, 1, none⟩) (.inr (Nat.le_succ _)) _)
       ·have kB : (I != (k : Int)) = true := by simpa using hB
        have hn : wholeT g = none := whole_bad HT.out (by rw [hin.out.2.1 t HT.out, HR.out t, HI2.out]; simp [hB])
        clear hB
        go_wp2_with fail
        refine bodyPost_ret (v := .tuple #[.agg #[.slice s1 m2 d1, .slice s2 m2 d2], .bool false]) (by simp [results, Tryz.results38, go_sem, y0, y1, hTl5]) rfl ?_
        exact HF.out hn _ ((HW4.out.ch.setCell (p := ⟨w.heap.size + 1, 0, none⟩) (.inr (Nat.le_succ _)) _).setCell (p := ⟨w.heap.size + 1, 1, none⟩) (.inr (Nat.le_succ _)) _)
    ·obtain rfl : k = n1 := by omega
     cases is with
     | false =>
      exfalso
      have h1 : tab g.nodes = none := by have := HI.out; cases h : tab g.nodes with | none => rfl | some t => rw [h] at this; cases this
      have := hin.out.2.2 h1
      omega
     | true =>
      obtain ⟨t, htab⟩ : ∃ t, tab g.nodes = some t := Option.isSome_iff_exists.1 HI.out.symm
      have HT := Lib.hid htab
      have hch : chainT g t g.rules 0 0 = some x := by
       rw [hin.out.2.1 t htab, HG.out.e1, List.drop_length]
       rfl
      have hwt : wholeT g = if x = n2 then some t else none := by
       unfold wholeT
       rw [HS.out, HA.out, htab, ← HG.out.e2]
       simp [hch]
      have HWT := Lib.hid hwt
      clear htab hch hwt
      by_cases hxn : x = n2
      ·have kx : ((x : Int) == (n2 : Int)) = true := by simp [hxn]
       have HX := Lib.hid hxn
       clear hxn
       go_wp2_with fail
       go_region
       all_goals go_wp2_with fail
       all_goals refine bodyPost_ret (v := .tuple #[.agg #[.slice s1 m1 d1, .slice s2 m2 d2], .bool true]) (by simp [results, Tryz.results38, go_sem, y0, y1, hTl3]) rfl ?_
       all_goals refine ⟨_, _, _, _, _, _, by rw [HWT.out, if_pos HX.out]; rfl, ((hin.out.1.ch.setCell (p := ⟨w.heap.size + 1, 0, none⟩) (.inr (Nat.le_succ _)) _).setCell (p := ⟨w.heap.size + 1, 1, none⟩) (.inr (Nat.le_succ _)) _).drew, fun t' ht' => ?_⟩
       all_goals rw [HWT.out, if_pos HX.out] at ht'
       all_goals cases ht'
       all_goals exact tree_two (hin.out.1.tr t HT.out) hin.out.1.tb _ _ _ _ _ _
      ·have kx : ((x : Int) == (n2 : Int)) = false := by simp; omega
       have HX := Lib.hid hxn
       clear hxn
       go_wp2_with fail
       go_region
       all_goals go_wp2_with fail
       all_goals refine bodyPost_ret (v := .tuple #[.agg #[.slice s1 m1 d1, .slice s2 m2 d2], .bool false]) (by simp [results, Tryz.results38, go_sem, y0, y1, hTl3]) rfl ?_
       all_goals refine ⟨_, _, _, _, _, _, by rw [HWT.out, if_neg HX.out]; rfl, ((hin.out.1.ch.setCell (p := ⟨w.heap.size + 1, 0, none⟩) (.inr (Nat.le_succ _)) _).setCell (p := ⟨w.heap.size + 1, 1, none⟩) (.inr (Nat.le_succ _)) _).drew, fun t' ht' => ?_⟩
       all_goals rw [HWT.out, if_neg HX.out] at ht'
       all_goals cases ht'
  ·have hall : wholeT g = none := by
    have : allB g = false := by
     unfold allB
     rw [List.all_eq_false]
     rw [List.any_eq_true] at hany
     obtain ⟨x, hx, hb⟩ := hany
     exact ⟨x, hx, by rw [← HG.out.e1]; simpa using hb⟩
    unfold wholeT
    rw [this]
    simp
   have HA := Lib.hid hall
   clear hall hany
   go_wp2_with fail
   refine bodyPost_ret (v := .tuple #[.agg #[.slice none 0 0, .slice none 0 0], .bool false]) (by simp [results, Tryz.results38, go_sem, y0, y1, hTl]) rfl ?_
   exact ⟨_, _, _, _, _, _, by rw [HA.out]; rfl, ((H1.out.2.2.setCell (.inr (by simp)) _).setCell (.inr (by simp)) _), fun t' ht' => by rw [HA.out] at ht'; cases ht'⟩
 ·have hnone : wholeT g = none := by
   have : sizesB g = false := by unfold sizesB; rw [← hg.e1, ← hg.e2]; simp; omega
   unfold wholeT
   rw [this]
   simp
  have HA := Lib.hid hnone
  clear hnone hg
  have hcs : ((n1 : Int) == 0) = true ∨ (((n1 : Int) == 0) = false ∧ decide (32 < (n1 : Int)) = true) ∨ (((n1 : Int) == 0) = false ∧ decide (32 < (n1 : Int)) = false ∧ decide (2048 < (n2 : Int)) = true) := by
   simp; omega
  clear hsz
  rcases hcs with k0 | ⟨k0, k1⟩ | ⟨k0, k1, k2⟩
  all_goals
   go_enter Tryz.func38, Tryz.ntmps38
   go_wp2_with fail
   refine bodyPost_ret (v := .tuple #[.agg #[.slice none 0 0, .slice none 0 0], .bool false]) (by simp [results, Tryz.results38, go_sem]) rfl ?_
   exact ⟨_, _, _, _, _, _, by rw [HA.out]; rfl, ((Chg.refl _ _).alloc _).alloc _, fun t' ht' => by rw [HA.out] at ht'; cases ht'⟩
end Go.Proofs.YtlklmpjakeedcaaGreatDoor

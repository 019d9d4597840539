/-
  Package well: the nodes of which every test is so, handed out one by one.
  Conditions: the grammar and the list of nodes stay.
-/
import Derived.Test.YtibgfgfmljhimaaGreatWe9WeB
import Derived.Test.YtibgfgfmljhimaaGreatWe9GRnd
set_option linter.unusedVariables false
set_option linter.unusedSimpArgs false
set_option linter.unnecessarySimpa false
namespace Go.Proofs.YtibgfgfmljhimaaGreat
open Go.RowKit Go.MapKept Go.Shelf

/-- Whether a node is handed out, by a list of nodes. -/
def testB (g : Gr) (zs : List Int) (j : Nat) : Bool := match g.nodes[j]? with
  | none => false
  | some x => (decide (x.k = 8) || decide (x.k = 9)) && decide (x.kids.headD 0 ∈ zs)
theorem idle_tests {g : Gr} (hr : rightB g = true) : idleL g = pickL g.nodes.length (testB g (nodesN g)) := by
  rw [idleL, if_pos hr]
  unfold pickL
  congr 1
  refine List.filter_congr fun j hj => ?_
  rw [List.mem_range] at hj
  simp only [idleB, testB, List.getElem?_eq_getElem hj]
  by_cases hk : g.nodes[j].k = 8 ∨ g.nodes[j].k = 9
  · have h1 := right_rep hr hj hk
    congr 1
    obtain ⟨z, hz⟩ : ∃ z, g.nodes[j].kids = [z] := List.length_eq_one_iff.1 h1
    have hkz := right_kids hr hj z (by rw [hz]; simp)
    have hd : g.nodes[j].kids.headD 0 = z := by rw [hz]; rfl
    rw [hd, Bool.eq_iff_iff, decide_eq_true_eq, nodesN, if_pos hr, pickW_mem]
    constructor
    · intro hm
      exact ⟨z.toNat, by omega, by omega, by rw [show ((z.toNat : Nat) : Int) = z by omega]; exact hm⟩
    · rintro ⟨q, rfl, _, hm⟩
      exact hm
  · rw [decide_eq_false (fun h => hk (.inl h)), decide_eq_false (fun h => hk (.inr h))]
    rfl

structure IdleW (W : World) (B1 B2 BT : Nat) (a1 : Option Addr) (n1 c1 : Nat) (a2 : Option Addr) (n2 c2 : Nat) (a3 : Option Addr) (n3 c3 : Nat) (g : Gr) (zs : List Int) : Prop where
  box : W.heap[B1]? = some (.cells #[.slice a1 n1 c1, .slice a2 n2 c2, .slice a3 n3 c3] 131 (0, 0))
  box2 : W.heap[B2]? = some (.cells #[.slice (some ⟨BT, 0, none⟩) 2 2] 209 (0, 0))
  row : W.heap[BT]? = some (.cells #[.func (.func 149) #[] #[], .func (.func 150) #[] #[]] 171 (0, 0))
  gram : GramAt W a1 n1 c1 a2 n2 c2 g
  ints : Ints W a3 zs
  len : n3 = zs.length
  few : n3 ≤ 100000
  up : zs.Pairwise (· < ·)
  kids : ∀ n (h : n < g.nodes.length), g.nodes[n].k = 8 ∨ g.nodes[n].k = 9 → 0 < g.nodes[n].kids.length
theorem IdleW.chg {W W' : World} {B1 B2 BT : Nat} {a1 : Option Addr} {n1 c1 : Nat} {a2 : Option Addr} {n2 c2 : Nat} {a3 : Option Addr} {n3 c3 : Nat} {g : Gr} {zs : List Int} (h : IdleW W B1 B2 BT a1 n1 c1 a2 n2 c2 a3 n3 c3 g zs) (hc : Chg [] W W') : IdleW W' B1 B2 BT a1 n1 c1 a2 n2 c2 a3 n3 c3 g zs :=
  ⟨hc.heap h.box (by simp), hc.heap h.box2 (by simp), hc.heap h.row (by simp), h.gram.keep hc.kp, h.ints.keep hc.kp, h.len, h.few, h.up, h.kids⟩

set_option maxRecDepth 100000 in
set_option maxHeartbeats 1000000 in
theorem idleIter_any (w : World) (a1 : Option Addr) (n1 c1 : Nat) (a2 : Option Addr) (n2 c2 : Nat) (a3 : Option Addr) (n3 c3 : Nat) :
    Calls Tryz.prog 109 #[workV a1 n1 c1 a2 n2 c2 a3 n3 c3] w fun e w' => e = .returned (.func (.func 172) #[] #[.pointer (some ⟨w.heap.size + 2, 0, none⟩), .pointer (some ⟨w.heap.size + 3, 0, none⟩)]) ∧ Chg [] w w' ∧
      w'.heap[w.heap.size + 2]? = some (.cells #[.slice a1 n1 c1, .slice a2 n2 c2, .slice a3 n3 c3] 131 (0, 0)) ∧
      w'.heap[w.heap.size + 3]? = some (.cells #[.slice (some ⟨w.heap.size + 1, 0, none⟩) 2 2] 209 (0, 0)) ∧
      w'.heap[w.heap.size + 1]? = some (.cells #[.func (.func 149) #[] #[], .func (.func 150) #[] #[]] 171 (0, 0)) := by
  unfold workV
  have hall : ∀ w2 : World, Calls Tryz.prog 148 #[.agg #[.slice a1 n1 c1, .slice a2 n2 c2, .slice a3 n3 c3], .slice (some ⟨w.heap.size + 1, 0, none⟩) 2 2] w2 fun e w' => e = .returned (.func (.func 172) #[] #[.pointer (some ⟨w2.heap.size, 0, none⟩), .pointer (some ⟨w2.heap.size + 1, 0, none⟩)]) ∧
      w' = (w2.alloc (.cells #[.slice a1 n1 c1, .slice a2 n2 c2, .slice a3 n3 c3] 131)).alloc (.cells #[.slice (some ⟨w.heap.size + 1, 0, none⟩) 2 2] 209) := fun w2 => by
    go_enter Tryz.func148, Tryz.ntmps148
    go_wp2
    go_ret
    exact ⟨rfl, rfl⟩
  go_enter Tryz.func109, Tryz.ntmps109
  obtain ⟨x0, x1, x2⟩ := cells3 (heap_alloc_same w (.cells #[.slice a1 n1 c1, .slice a2 n2 c2, .slice a3 n3 c3] 131))
  go_wp2_with fail
  refine (hall _).mono ?_
  rintro e w4 ⟨rfl, rfl⟩
  simp only [World.size_alloc, Nat.add_assoc, Nat.reduceAdd]
  obtain ⟨w4, e4⟩ : ∃ w4, w4 = (((w.alloc (.cells #[.slice a1 n1 c1, .slice a2 n2 c2, .slice a3 n3 c3] 131)).alloc (.cells #[.func (.func 149) #[] #[], .func (.func 150) #[] #[]] 171)).alloc (.cells #[.slice a1 n1 c1, .slice a2 n2 c2, .slice a3 n3 c3] 131)).alloc (.cells #[.slice (some ⟨w.heap.size + 1, 0, none⟩) 2 2] 209) := ⟨_, rfl⟩
  have hc4 : Chg [] w w4 := by rw [e4]; exact ((((Chg.refl _ w).alloc _).alloc _).alloc _).alloc _
  have hb1 : w4.heap[w.heap.size + 2]? = some (.cells #[.slice a1 n1 c1, .slice a2 n2 c2, .slice a3 n3 c3] 131 (0, 0)) := by
    rw [e4]
    have := heap_alloc_same ((w.alloc (.cells #[.slice a1 n1 c1, .slice a2 n2 c2, .slice a3 n3 c3] 131)).alloc (.cells #[.func (.func 149) #[] #[], .func (.func 150) #[] #[]] 171)) (.cells #[.slice a1 n1 c1, .slice a2 n2 c2, .slice a3 n3 c3] 131)
    simp only [World.size_alloc, Nat.add_assoc, Nat.reduceAdd] at this
    exact heap_alloc_lt this _
  have hb2 : w4.heap[w.heap.size + 3]? = some (.cells #[.slice (some ⟨w.heap.size + 1, 0, none⟩) 2 2] 209 (0, 0)) := by
    rw [e4]
    have := heap_alloc_same (((w.alloc (.cells #[.slice a1 n1 c1, .slice a2 n2 c2, .slice a3 n3 c3] 131)).alloc (.cells #[.func (.func 149) #[] #[], .func (.func 150) #[] #[]] 171)).alloc (.cells #[.slice a1 n1 c1, .slice a2 n2 c2, .slice a3 n3 c3] 131)) (.cells #[.slice (some ⟨w.heap.size + 1, 0, none⟩) 2 2] 209)
    simp only [World.size_alloc, Nat.add_assoc, Nat.reduceAdd] at this
    exact this
  have hbT : w4.heap[w.heap.size + 1]? = some (.cells #[.func (.func 149) #[] #[], .func (.func 150) #[] #[]] 171 (0, 0)) := by
    rw [e4]
    have := heap_alloc_same (w.alloc (.cells #[.slice a1 n1 c1, .slice a2 n2 c2, .slice a3 n3 c3] 131)) (.cells #[.func (.func 149) #[] #[], .func (.func 150) #[] #[]] 171)
    simp only [World.size_alloc] at this
    exact heap_alloc_lt (heap_alloc_lt this _) _
  rw [← e4]
  have H4 := Lib.hid (And.intro hc4 (And.intro hb1 (And.intro hb2 hbT)))
  clear e4 hc4 hb1 hb2 hbT hall x0 x1 x2
  go_wp2_with fail
  go_ret
  exact ⟨rfl, H4.out⟩

set_option maxRecDepth 100000 in
set_option maxHeartbeats 1000000 in
theorem odd_any (w : World) (B1 B4 f : Nat) (a1 : Option Addr) (n1 c1 : Nat) (a2 : Option Addr) (n2 c2 : Nat) (a3 : Option Addr) (n3 c3 : Nat) (hb : w.heap[B1]? = some (.cells #[.slice a1 n1 c1, .slice a2 n2 c2, .slice a3 n3 c3] 131 (0, 0)))
    (n : Int) (hb4 : w.heap[B4]? = some (.cells #[.int .i64 n] 3 (0, 0))) (r : Bool) (hc : Calls Tryz.prog f #[workV a1 n1 c1 a2 n2 c2 a3 n3 c3, .int .i64 n] w fun e w' => e = .returned (.bool r) ∧ Chg [] w w') (eg : ∀ args w, (callFunc f args).run Tryz.prog w = .ok (.enter f args) w) :
    Calls Tryz.prog 173 #[.func (.func f) #[] #[], .pointer (some ⟨B1, 0, none⟩), .pointer (some ⟨B4, 0, none⟩)] w fun e w' => e = .returned (.bool (!r)) ∧ Chg [] w w' := by
  unfold workV at hc
  obtain ⟨x0, x1, x2⟩ := cells3 hb
  have y0 := cells1 hb4
  have H := Lib.hid hc
  clear hc hb hb4
  go_enter Tryz.func173, Tryz.ntmps173
  go_wp2_with fail
  refine H.out.mono ?_
  rintro e w2 ⟨rfl, hc2⟩
  have H2 := Lib.hid hc2
  clear hc2 x0 x1 x2 y0 H
  go_wp2_with fail
  go_ret
  exact ⟨rfl, H2.out⟩

set_option maxRecDepth 100000 in
set_option maxHeartbeats 2000000 in
theorem tests_any (w : World) (B1 B2 BT B4 : Nat) (a1 : Option Addr) (n1 c1 : Nat) (a2 : Option Addr) (n2 c2 : Nat) (a3 : Option Addr) (n3 c3 : Nat) (g : Gr) (zs : List Int) (hw : IdleW w B1 B2 BT a1 n1 c1 a2 n2 c2 a3 n3 c3 g zs)
    (n : Nat) (hn : n < g.nodes.length) (hb4 : w.heap[B4]? = some (.cells #[.int .i64 n] 3 (0, 0))) :
    Calls Tryz.prog 174 #[.slice (some ⟨BT, 0, none⟩) 2 2, .func (.func 173) #[] #[.pointer (some ⟨B1, 0, none⟩), .pointer (some ⟨B4, 0, none⟩)]] w fun e w' => e = .returned (.bool (!testB g zs n)) ∧ Chg [] w w' := by
  obtain ⟨r, hr⟩ : ∃ r, r = (decide (g.nodes[n].k = 8) || decide (g.nodes[n].k = 9)) := ⟨_, rfl⟩
  obtain ⟨s, hs⟩ : ∃ s, s = decide (g.nodes[n].kids.headD 0 ∈ zs) := ⟨_, rfl⟩
  have ht : testB g zs n = (r && s) := by simp only [testB, List.getElem?_eq_getElem hn, hr, hs]
  rw [ht]
  have h1 : ∀ W, Chg [] w W → Calls Tryz.prog 173 #[.func (.func 149) #[] #[], .pointer (some ⟨B1, 0, none⟩), .pointer (some ⟨B4, 0, none⟩)] W fun e w' => e = .returned (.bool (!r)) ∧ Chg [] W w' := fun W hW => by
    refine odd_any W B1 B4 _ a1 n1 c1 a2 n2 c2 a3 n3 c3 (hw.chg hW).box n (hW.heap hb4 (by simp)) r ?_ (enters_of Tryz.func149 (by kernel_rfl) rfl)
    rw [hr]
    exact repeats_any W a1 n1 c1 a2 n2 c2 a3 n3 c3 g (hw.chg hW).gram n hn
  have h2 : r = true → ∀ W, Chg [] w W → Calls Tryz.prog 173 #[.func (.func 150) #[] #[], .pointer (some ⟨B1, 0, none⟩), .pointer (some ⟨B4, 0, none⟩)] W fun e w' => e = .returned (.bool (!s)) ∧ Chg [] W w' := fun hrt W hW => by
    have hk1 := hw.kids n hn (by rw [hr] at hrt; simpa using hrt)
    refine odd_any W B1 B4 _ a1 n1 c1 a2 n2 c2 a3 n3 c3 (hw.chg hW).box n (hW.heap hb4 (by simp)) s ?_ (enters_of Tryz.func150 (by kernel_rfl) rfl)
    have hd : g.nodes[n].kids.headD 0 = g.nodes[n].kids[0] := by
      obtain ⟨x, l, hx⟩ : ∃ x l, g.nodes[n].kids = x :: l := by
        cases h : g.nodes[n].kids with
        | nil => rw [h] at hk1; simp at hk1
        | cons x l => exact ⟨x, l, rfl⟩
      simp [hx]
    rw [hs, hd]
    exact empty_any W a1 n1 c1 a2 n2 c2 a3 n3 c3 g (hw.chg hW).gram n hn hk1 zs hw.len hw.few (hw.chg hW).ints hw.up
  have hidx : Calls Tryz.prog 187 #[.slice (some ⟨BT, 0, none⟩) 2 2, .func (.func 173) #[] #[.pointer (some ⟨B1, 0, none⟩), .pointer (some ⟨B4, 0, none⟩)]] w fun e w' => (∃ i : Int, e = .returned (.int .i64 i) ∧ decide (0 ≤ i) = !(r && s)) ∧ Chg [] w w' := by
    have H := Lib.hid (And.intro hw (And.intro h1 h2))
    have eo := enters_of Tryz.func173 (by kernel_rfl) rfl
    clear hr hs ht h1 h2 hb4
    go_enter Tryz.func187, Tryz.ntmps187
    go_wp2_with fail
    go_loopg [8] 2 (fun d iv wr => ∃ k : Nat, d = 2 - k ∧ k ≤ 2 ∧ iv = .int .i64 k ∧ Hid (Chg [] w wr ∧ (1 ≤ k → r = true) ∧ (2 ≤ k → s = true)))
    case atStart => exact ⟨0, rfl, by omega, rfl, Lib.hid ⟨Chg.refl _ _, by omega, by omega⟩⟩
    case round =>
      obtain ⟨k, rfl, hk, rfl, hin⟩ := hrel
      obtain ⟨wl, rfl⟩ : ∃ wz, wz = wr := ⟨_, rfl⟩
      obtain ⟨y0, y1⟩ := cells2 (H.out.1.chg hin.out.1).row
      rcases (show k = 0 ∨ k = 1 ∨ k = 2 by omega) with rfl | rfl | rfl
      · go_wp2_with fail
        refine (H.out.2.1 _ hin.out.1).mono ?_
        rintro e w2 ⟨rfl, hc2⟩
        have H2 := Lib.hid hc2
        clear hc2 y0 y1
        cases r with
        | true =>
          go_wp2_with fail
          go_roundg (1)
          case measure => omega
          case rel => exact ⟨1, rfl, by omega, by go_num, Lib.hid ⟨hin.out.1.tr H2.out, fun _ => by trivial, by omega⟩⟩
        | false =>
          go_wp2_with fail
          go_ret
          exact ⟨⟨_, rfl, rfl⟩, hin.out.1.tr H2.out⟩
      · have hrt := hin.out.2.1 (by omega)
        subst hrt
        go_wp2_with fail
        refine (H.out.2.2 (by trivial) _ hin.out.1).mono ?_
        rintro e w2 ⟨rfl, hc2⟩
        have H2 := Lib.hid hc2
        clear hc2 y0 y1
        cases s with
        | true =>
          go_wp2_with fail
          go_roundg (0)
          case measure => omega
          case rel => exact ⟨2, rfl, by omega, by go_num, Lib.hid ⟨hin.out.1.tr H2.out, fun _ => by trivial, fun _ => by trivial⟩⟩
        | false =>
          go_wp2_with fail
          go_ret
          exact ⟨⟨_, rfl, rfl⟩, hin.out.1.tr H2.out⟩
      · have hrt := hin.out.2.1 (by omega)
        have hst := hin.out.2.2 (by omega)
        subst hrt hst
        go_wp2_with fail
        go_ret
        exact ⟨⟨_, rfl, by decide⟩, hin.out.1⟩
  have HI := Lib.hid hidx
  obtain ⟨q, hq⟩ : ∃ q, q = (!(r && s)) := ⟨_, rfl⟩
  rw [← hq] at HI ⊢
  clear hidx hw hr hs ht h1 h2 hb4 hq
  go_enter Tryz.func174, Tryz.ntmps174
  go_wp2_with fail
  refine HI.out.mono ?_
  rintro e w2 ⟨⟨i, rfl, hi⟩, hc2⟩
  have H2 := Lib.hid hc2
  clear HI hc2
  go_wp2_with fail
  go_ret
  exact ⟨rfl, H2.out⟩

section
attribute [local go_sem] Oper.semAt_some
set_option maxRecDepth 100000 in
set_option maxHeartbeats 4000000 in
theorem All_gives (w : World) (B1 B2 BT : Nat) (a1 : Option Addr) (n1 c1 : Nat) (a2 : Option Addr) (n2 c2 : Nat) (a3 : Option Addr) (n3 c3 : Nat) (g : Gr) (zs : List Int) (R : World → World → Prop) (hR0 : ∀ A B, Chg [] A B → R A B) (hRt : ∀ A B C, R A B → R B C → R A C)
    (hI : ∀ W, R w W → IdleW W B1 B2 BT a1 n1 c1 a2 n2 c2 a3 n3 c3 g zs) :
    Gives Tryz.prog 172 #[.pointer (some ⟨B1, 0, none⟩), .pointer (some ⟨B2, 0, none⟩)] (fun x : Int => #[.int .i64 x]) (fun pre x _ => pre ++ [x] <+: pickL g.nodes.length (testB g zs)) (fun _ _ => R) (fun xs => xs = pickL g.nodes.length (testB g zs)) (fun _ => True) w := by
  intro mm l J Jx W hW hJ hJx hY h0
  have hIW := hI W (hR0 _ _ hW)
  have hn2 : n2 = g.nodes.length := hIW.gram.e2
  have hs2 := hIW.gram.small.2
  have H := Lib.hid (And.intro hI (And.intro (hR0 _ _ hW) hn2))
  obtain ⟨x0, x1, x2⟩ := cells3 hIW.box
  show CallsIn Fence.wide (mm + 1) Tryz.prog 172 #[.func (.yield l) #[] #[], .pointer (some ⟨B1, 0, none⟩), .pointer (some ⟨B2, 0, none⟩)] W _
  clear hI hIW hW hn2
  refine callsIn_of_wp Tryz.func172 rfl trivial ?_ rfl
  simp only [Tryz.ntmps172, List.size_toArray, List.length_cons, List.length_nil, Nat.reduceAdd, Nat.reduceSub, Array.replicate_succ, Array.replicate_zero, List.push_toArray, List.append_toArray, List.nil_append, List.cons_append]
  gi_wp2_with fail
  clear x0 x1 x2
  gi_loopg [10] n2 (fun d iv wr => ∃ j : Nat, d = n2 - j ∧ j ≤ n2 ∧ iv = .int .i64 j ∧ Hid (J (pickL j (testB g zs)) wr ∧ R w wr))
  case atStart => exact ⟨0, rfl, Nat.zero_le _, rfl, Lib.hid ⟨h0, H.out.2.1⟩⟩
  case round =>
    obtain ⟨j, rfl, hj, rfl, HI⟩ := hrel
    obtain ⟨wq, rfl⟩ : ∃ wz, wz = wr := ⟨_, rfl⟩
    by_cases hlt : j < n2
    · have hjn : j < g.nodes.length := by have := H.out.2.2; omega
      have hIq := H.out.1 _ HI.out.2
      have hca := (Chg.refl [] wq).alloc (.cells #[.int .i64 j] 3)
      have y0 := cells1 (hca.heap hIq.box2 (by simp))
      have z0 := cells1 (heap_alloc_same wq (.cells #[.int .i64 j] 3))
      have hcall := tests_any _ B1 B2 BT wq.heap.size a1 n1 c1 a2 n2 c2 a3 n3 c3 g zs (hIq.chg hca) j hjn (heap_alloc_same wq (.cells #[.int .i64 j] 3))
      obtain ⟨t, ht⟩ : ∃ t, t = testB g zs j := ⟨_, rfl⟩
      rw [← ht] at hcall
      have HR := Lib.hid (And.intro hcall (And.intro ht (And.intro hca (heap_alloc_same wq (.cells #[.int .i64 j] 3)))))
      clear hcall ht hca hIq
      gi_wp2_with fail
      refine ⟨trivial, (callsIn_wide.2 HR.out.1).mono ?_⟩
      rintro e w3 ⟨rfl, hc3⟩
      have hc03 := HR.out.2.2.1.tr hc3
      have z3 := cells1 (hc3.heap HR.out.2.2.2 (by simp))
      have H3 := Lib.hid hc03
      clear hc3 hc03 y0 z0
      cases t with
      | false =>
        gi_wp2_with fail
        refine ⟨(by intro f h; cases h), ?_⟩
        gi_wp2_with fail
        gi_roundg (n2 - (j + 1))
        case measure => omega
        case rel => exact ⟨j + 1, rfl, by omega, by go_num, Lib.hid ⟨by rw [pickL_succ, if_neg (by rw [← HR.out.2.1]; simp), List.append_nil]; exact hJ _ _ _ HI.out.1 H3.out, hRt _ _ _ HI.out.2 (hR0 _ _ H3.out)⟩⟩
      | true =>
        have hpx : pickL j (testB g zs) ++ [(j : Int)] <+: pickL g.nodes.length (testB g zs) := by
          obtain ⟨q, hq⟩ := pickW_split g.nodes.length (testB g zs) (j + 1) hjn
          rw [pickL_succ, if_pos HR.out.2.1.symm] at hq
          exact ⟨q, hq.symm⟩
        obtain ⟨fn, tmps, assign, body, hy, hR⟩ := hY (pickL j (testB g zs)) j w3 (hJ _ _ _ HI.out.1 H3.out) hpx
        clear hpx
        gi_wp2_with fail
        first
        | refine ⟨fun h => by simp [Fence.wide] at h, hR.mono ?_⟩
        | refine hR.mono ?_
        rintro e w4 (⟨rfl, hJ4, hk4⟩ | ⟨rfl, hJx4⟩)
        · gi_wp2_with fail
          gi_roundg (n2 - (j + 1))
          case measure => omega
          case rel => exact ⟨j + 1, rfl, by omega, by go_num, Lib.hid ⟨by rw [pickL_succ, if_pos HR.out.2.1.symm]; exact hJ4, hRt _ _ _ (hRt _ _ _ HI.out.2 (hR0 _ _ H3.out)) hk4⟩⟩
        · gi_wp2_with fail
          refine bodyPost_ret (results_none rfl _ _ _) rfl ?_
          exact ⟨⟨_, rfl⟩, .inr ⟨_, trivial, hJx4⟩⟩
    · obtain rfl : j = n2 := by omega
      gi_wp2_with fail
      go_end0
      exact ⟨⟨_, rfl⟩, .inl ⟨_, by rw [← H.out.2.2], HI.out.1⟩⟩
end
end Go.Proofs.YtibgfgfmljhimaaGreat

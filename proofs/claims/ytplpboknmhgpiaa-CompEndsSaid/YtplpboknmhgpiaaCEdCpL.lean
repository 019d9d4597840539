/-
  Whether one number of a graph leads on to another one, by the package.
  Conditions: the rows read as data.
-/
import Derived.Test.YtplpboknmhgpiaaCEdCpS
import Derived.Test.YtplpboknmhgpiaaCEdCpSort
import Derived.Test.YtplpboknmhgpiaaCEdGBool
import Derived.Deep.Cut
set_option linter.unusedVariables false
set_option linter.unusedSimpArgs false
set_option linter.unnecessarySimpa false
namespace Go.Proofs.Ytplpboknmhgpiaa
open Go.RowKit Go.MapKept Go.Shelf

theorem Chg.own2 {a b c : World} {S : List Nat} (h : Chg [] a b) (k : Chg S b c) (hS : ∀ j ∈ S, a.heap.size ≤ j) : Chg [] a c := h.trans k fun j hj => .inr (hS j hj)
/-- A row of a graph in memory. -/
theorem graph_row {w : World} {a : Option Addr} {VG : List Is} {G : List (List Nat)} (hVG : VG.map (·.2.2) = Cp.intsG G) (hr : IntRows w a VG) {c : Nat} (hc : c < G.length) :
    ∃ b o ra rc, a = some ⟨b, o, none⟩ ∧ w.cell? ⟨b, o + c, none⟩ = some (.slice ra (Cp.row G c).length rc) ∧ Ints w ra (natI (Cp.row G c)) ∧ (Cp.row G c).length ≤ 9223372036854775807 := by
  have hlen : c < VG.length := by
    have := congrArg List.length hVG
    rw [List.length_map, Cp.intsG_len] at this
    omega
  obtain ⟨b, o, e, h1, h2, h3⟩ := hr c hlen
  have hrow : VG[c].2.2 = natI (Cp.row G c) := by
    have h1 : (VG.map (·.2.2))[c]? = (Cp.intsG G)[c]? := by rw [hVG]
    have h3 : Cp.row G c = G[c] := by unfold Cp.row; simp [hc]
    rw [h3]
    simpa [Cp.intsG, hlen, hc, natI] using h1
  rw [hrow] at h2 h3
  rw [natI_len] at h3
  refine ⟨b, o, VG[c].1, VG[c].2.1, e, ?_, h2, h3⟩
  rw [h1, Is.cell, hrow, natI_len]
/-- What holds while a row is put aside. -/
def AsideAt (w0 : World) (bA bM bX bC : Nat) (xv : Value) (bs : List Bool) (c : Nat) (l : List Nat) (W : World) : Prop :=
  ∃ A : Is, A.2.2 = natI l ∧ FreshInts w0.heap.size W A.1 A.2.1 A.2.2 ∧ W.heap[bA]? = some (.cells #[A.cell] 42 (0, 0)) ∧ W.heap[bM]? = some (rowB bs) ∧ W.heap[bX]? = some (.cells #[xv] 22 (0, 0)) ∧ W.heap[bC]? = some (.cells #[.int .i64 c] 3 (0, 0)) ∧ Chg [] w0 W ∧ A.own ≠ some bC ∧ w0.heap.size ≤ bA

set_option maxRecDepth 100000 in
set_option maxHeartbeats 4000000 in
theorem leads1_any (w0 W : World) (bA bM bX bC : Nat) (ga : Option Addr) (n gc : Nat) (VG : List Is) (G : List (List Nat)) (hG : Cp.RG G) (hn : n = G.length) (hVG : VG.map (·.2.2) = Cp.intsG G) (hrows : IntRows w0 ga VG) (bs : List Bool) (c : Nat) (hc : c < n) (l : List Nat) (hl : l.length ≤ 10000) (j : Nat) (hj : j < (Cp.row G c).length) (h : AsideAt w0 bA bM bX bC (.slice ga n gc) bs c l W) :
    Calls Try.prog 30 #[.int .i64 j, .pointer (some ⟨bA, 0, none⟩), .pointer (some ⟨bX, 0, none⟩), .pointer (some ⟨bC, 0, none⟩)] W fun e W' => e = .returned (.tuple #[]) ∧ AsideAt w0 bA bM bX bC (.slice ga n gc) bs c (l ++ [(Cp.row G c)[j]]) W' := by
  obtain ⟨A, h1, h2, h3, h4, h5, h6, h7, h8, h9⟩ := h
  obtain ⟨b, o, ra, rc, rfl, k1, k2, k3⟩ := graph_row hVG (hrows.keep h7.kp) (c := c) (by omega)
  obtain ⟨m, hm⟩ : ∃ m, m = (Cp.row G c).length := ⟨_, rfl⟩
  obtain ⟨bz, oz, rfl, k4⟩ := k2 j (by rw [natI_len]; exact hj)
  obtain ⟨y, hy⟩ : ∃ y, y = (Cp.row G c)[j] := ⟨_, rfl⟩
  have k5 : W.cell? ⟨bz, oz + j, none⟩ = some (.int .i64 (y : Nat)) := by rw [k4]; simp [natI, hy]
  rw [← hy]
  rw [← hm] at k1 k3 hj
  have x1 := cells1 h5
  have x2 := cells1 h6
  have hpush := push_any W w0.heap.size bA 0 _ 42 A (y : Int) h3 rfl (by decide) h7.size h2 (by rw [h1, natI_len]; omega)
  have H := Lib.hid (And.intro h1 (And.intro h2 (And.intro h3 (And.intro h4 (And.intro h5 (And.intro h6 (And.intro h7 (And.intro h8 (And.intro h9 hpush)))))))))
  clear h1 h2 h3 h4 h5 h6 h7 h8 h9 hpush k2 k4 hy hm hVG hrows hG hn
  go_enter Try.func30, Try.ntmps30
  go_wp2_with fail
  refine H.out.2.2.2.2.2.2.2.2.2.mono ?_
  rintro e w2 ⟨rfl, A', a1, a2, a3, a4, a5⟩
  obtain ⟨h1, h2, h3, h4, h5, h6, h7, h8, h9, -⟩ := H.out
  have hnot : ∀ {q : Nat} {o : Obj}, W.heap[q]? = some o → q ≠ bA → A.own ≠ some q → w2.heap[q]? = some o := fun hq h1 h2 => a5.heap hq (by
    rw [List.mem_cons, not_or]
    exact ⟨h1, by simpa using h2⟩)
  have hne : ∀ {q : Nat} {cs : Array Value} {t : TypeId}, W.heap[q]? = some (.cells cs t (0, 0)) → t ≠ 42 → q ≠ bA := fun hq ht e => by
    rw [e, h3] at hq
    simp only [Option.some.injEq, Obj.cells.injEq] at hq
    exact ht hq.2.1.symm
  have HF := Lib.hid (And.intro a1 (And.intro a2 (And.intro a3 (And.intro (hnot h4 (hne h4 (by decide)) (ownsRow_ne h2 h4 (by decide))) (And.intro (hnot h5 (hne h5 (by decide)) (ownsRow_ne h2 h5 (by decide))) (And.intro (hnot h6 (hne h6 (by decide)) h8) (And.intro (h7.own2 a5 (fun q hq => by
    rcases List.mem_cons.1 hq with e | e
    · rw [e]; exact h9
    · exact (row_lt h2 (by simpa using e)).1)) a4)))))))
  have hbC := lt_of_block h6
  clear hnot hne a1 a2 a3 a4 a5 h1 h2 h3 h4 h5 h6 h7
  go_wp2_with fail
  refine bodyPost_end (v := .tuple #[]) (by simp [results, Try.results30, go_sem]) rfl ?_
  refine ⟨rfl, A', ?_, HF.out.2.1, ?_, HF.out.2.2.2.1, HF.out.2.2.2.2.1, HF.out.2.2.2.2.2.1, HF.out.2.2.2.2.2.2.1, fun e => ?_, h9⟩
  · rw [HF.out.1, H.out.1, natI_append]; rfl
  · have := HF.out.2.2.1
    simpa using this
  · rcases HF.out.2.2.2.2.2.2.2 bC e with k | k
    · exact h8 k
    · omega

def bsOf (n : Nat) (met : Nat → Bool) : List Bool := (List.range n).map met
theorem bsOf_set (n : Nat) (met : Nat → Bool) (c : Nat) : (bsOf n met).set c true = bsOf n (Cp.upd met c true) := Cp.set_range met n c true
theorem bsOf_get {n c : Nat} (met : Nat → Bool) (hc : c < n) : (bsOf n met)[c]? = some (met c) := by simp [bsOf, hc]
theorem bsOf_false (n : Nat) : List.replicate n false = bsOf n (fun _ => false) := by
  unfold bsOf
  rw [List.map_const', List.length_range]
/-- What the search of Leads is between two rounds. -/
def LeadsAt (w0 : World) (bA bM bX : Nat) (xv : Value) (n : Nat) (G : List (List Nat)) (a : Nat) (met : Nat → Bool) (l : List Nat) (W : World) : Prop :=
  Cp.DfsI G a met l ∧ Cp.dfsM G met l ≤ 5000 ∧ W.heap[bM]? = some (rowB (bsOf n met)) ∧ W.heap[bX]? = some (.cells #[xv] 22 (0, 0)) ∧ (∃ A : Is, A.2.2 = natI l ∧ FreshInts w0.heap.size W A.1 A.2.1 A.2.2 ∧ W.heap[bA]? = some (.cells #[A.cell] 42 (0, 0))) ∧ Chg [] w0 W ∧ w0.heap.size ≤ bA ∧ w0.heap.size ≤ bM

set_option maxRecDepth 100000 in
set_option maxHeartbeats 8000000 in
theorem leadsC_any (w : World) (ga : Option Addr) (n gc : Nat) (VG : List Is) (hn : n = VG.length) (hgc : n ≤ gc ∧ gc ≤ 9223372036854775807) (hx : IntRows w ga VG) (x y : Int) (hy : I64 y) (hxx : I64 x) :
    Calls Try.prog 16 #[.slice ga n gc, .int .i64 x, .int .i64 y] w fun e w' => e = .returned (.bool (Cp.leadsI (VG.map (·.2.2)) x y)) ∧ Chg [] w w' := by
  obtain ⟨R, hR⟩ : ∃ R, R = Cp.leadsI (VG.map (·.2.2)) x y := ⟨_, rfl⟩
  rw [← hR]
  have hlen : (VG.map (·.2.2)).length = n := by rw [List.length_map, ← hn]
  obtain ⟨r1, hr1⟩ : ∃ r, r = Cp.rightI (VG.map (·.2.2)) := ⟨_, rfl⟩
  have H := Lib.hid (And.intro hn (And.intro hx (And.intro hR (And.intro hlen hr1))))
  clear hn hx hR hlen hr1
  go_enter Try.func16, Try.ntmps16
  have hcA := (Chg.refl [] w).alloc (Obj.cells #[.slice ga n gc] 22)
  have hXb := heap_alloc_same w (Obj.cells #[.slice ga n gc] 22)
  have HA := Lib.hid (And.intro hcA hXb)
  clear hcA hXb
  go_wp2_with fail
  refine (rightC_any _ ga n gc VG H.out.1 (by omega) (H.out.2.1.keep HA.out.1.kp)).mono ?_
  rintro e w1 ⟨rfl, hc1⟩
  rw [← H.out.2.2.2.2]
  have hX1 := hc1.heap HA.out.2 (by simp)
  obtain ⟨bX, hbX⟩ : ∃ bX, bX = w.heap.size := ⟨_, rfl⟩
  rw [← hbX] at hX1 ⊢
  have x1 := cells1 hX1
  have H1 := Lib.hid (And.intro hX1 (And.intro (HA.out.1.tr hc1) hbX))
  clear hX1 hc1 hbX
  cases r1 with
  | false =>
    go_wp2_with fail
    go_ret
    refine ⟨ret_bool (a := false) ?_, H1.out.2.1⟩
    rw [H.out.2.2.1]; unfold Cp.leadsI
    rw [← H.out.2.2.2.2]; rfl
  | true =>
    go_wp2_with fail
    refine (number_any w1 ga n gc x (by omega)).mono ?_
    rintro e w2 ⟨rfl, hc2⟩
    obtain ⟨r2, hr2⟩ : ∃ r2, r2 = (decide (0 ≤ x) && decide (x < (n : Int))) := ⟨_, rfl⟩
    rw [← hr2]
    have hX2 := hc2.heap H1.out.1 (by simp)
    clear x1
    have x1 := cells1 hX2
    have H2 := Lib.hid (And.intro hX2 (And.intro (H1.out.2.1.tr hc2) hr2))
    clear hX2 hc2 hr2
    cases r2 with
    | false =>
      go_wp2_with fail
      go_ret
      refine ⟨ret_bool (a := false) ?_, H2.out.2.1⟩
      rw [H.out.2.2.1]; unfold Cp.leadsI Cp.numI
      rw [H.out.2.2.2.1, ← H2.out.2.2]; simp
    | true =>
      go_wp2_with fail
      refine (number_any w2 ga n gc y (by omega)).mono ?_
      rintro e w3 ⟨rfl, hc3⟩
      obtain ⟨r3, hr3⟩ : ∃ r3, r3 = (decide (0 ≤ y) && decide (y < (n : Int))) := ⟨_, rfl⟩
      rw [← hr3]
      have hX3 := hc3.heap H2.out.1 (by simp)
      clear x1
      have x1 := cells1 hX3
      have H3 := Lib.hid (And.intro hX3 (And.intro (H2.out.2.1.tr hc3) hr3))
      clear hX3 hc3 hr3
      cases r3 with
      | false =>
        go_wp2_with fail
        go_ret
        refine ⟨ret_bool (a := false) ?_, H3.out.2.1⟩
        rw [H.out.2.2.1]; unfold Cp.leadsI Cp.numI
        rw [H.out.2.2.2.1, ← H3.out.2.2]; simp
      | true =>
        obtain ⟨a, ha, han⟩ : ∃ a : Nat, x = (a : Int) ∧ a < n := by
          have := H2.out.2.2
          simp at this
          exact ⟨x.toNat, by omega, by omega⟩
        obtain ⟨b, hb, hbn⟩ : ∃ b : Nat, y = (b : Int) ∧ b < n := by
          have := H3.out.2.2
          simp at this
          exact ⟨y.toNat, by omega, by omega⟩
        subst ha hb
        have hG := Cp.right_RG H.out.2.2.2.2.symm
        obtain ⟨G, hGd⟩ : ∃ G, G = Cp.toG (VG.map (·.2.2)) := ⟨_, rfl⟩
        rw [← hGd] at hG
        have hGn : n = G.length := by rw [hGd, Cp.toG_len, H.out.2.2.2.1]
        have hVG : VG.map (·.2.2) = Cp.intsG G := by rw [hGd, Cp.ints_toG H.out.2.2.2.2.symm]
        have hn64 : n ≤ 64 := by rw [hGn]; exact hG.few
        have hRw : R = Cp.wB G n a b := by
          rw [H.out.2.2.1]; unfold Cp.leadsI
          rw [← H.out.2.2.2.2, Cp.numI_nat (by rw [H.out.2.2.2.1]; exact han), Cp.numI_nat (by rw [H.out.2.2.2.1]; exact hbn), H.out.2.2.2.1, ← hGd]; simp
        have hmk := fun W => run_falses n (by omega) W
        have hmkb := heap_alloc_same w3 (rowB (List.replicate n false))
        have HG := Lib.hid (And.intro hG (And.intro hGn (And.intro hVG hRw)))
        clear hG hGd hGn hVG hRw hmkb
        go_wp2_with fail
        have hM4 := heap_alloc_lt (heap_alloc_same w3 (rowB (List.replicate n false))) (Obj.cells #[.slice none 0 0] 42)
        have hA4 := heap_alloc_same (w3.alloc (rowB (List.replicate n false))) (Obj.cells #[.slice none 0 0] 42)
        rw [World.size_alloc] at hA4
        have hc4 : Chg [] w3 ((w3.alloc (rowB (List.replicate n false))).alloc (Obj.cells #[.slice none 0 0] 42)) := ((Chg.refl [] w3).alloc _).alloc _
        obtain ⟨w4, hw4⟩ : ∃ w4, w4 = (w3.alloc (rowB (List.replicate n false))).alloc (Obj.cells #[.slice none 0 0] 42) := ⟨_, rfl⟩
        rw [← hw4] at hM4 hA4 hc4
        have hX4 := hc4.heap H3.out.1 (by simp)
        have hpush := push_any w4 w.heap.size (w3.heap.size + 1) 0 _ 42 (none, 0, []) (a : Int) hA4 rfl (by decide) (H3.out.2.1.tr hc4).size (World.ownsRow_nil _ _ _ _) (Nat.zero_le _)
        rw [hw4] at hpush
        refine hpush.mono ?_
        rw [← hw4]
        clear hpush
        rintro e w5 ⟨rfl, A, a1, a2, a3, a4, a5⟩
        obtain ⟨bM, hbM⟩ : ∃ bM, bM = w3.heap.size := ⟨_, rfl⟩
        obtain ⟨bA, hbA⟩ : ∃ bA, bA = w3.heap.size + 1 := ⟨_, rfl⟩
        rw [← hbA] at hA4 a3 a5 ⊢
        rw [← hbM] at hM4 ⊢
        have hstart : LeadsAt w bA bM bX (.slice ga n gc) n G a (fun _ => false) [a] w5 := by
          have hc40 := H3.out.2.1.tr hc4
          have hk : ∀ {q : Nat} {o : Obj}, w4.heap[q]? = some o → q ≠ bA → w5.heap[q]? = some o := fun hq h1 => a5.heap hq (by
            rw [List.mem_cons, not_or]
            exact ⟨h1, by simp [Is.own, Is.cell, Value.ownBlock]⟩)
          have hs := hc40.size
          have hs3 := H3.out.2.1.size
          refine ⟨Cp.dfs_start (by rw [← HG.out.2.1]; exact han), Nat.le_trans (Cp.dfs_first HG.out.1 a) (by omega), ?_, hk hX4 (by have := H1.out.2.2; have := lt_of_block H3.out.1; omega), ⟨A, by rw [a1]; rfl, a2, by simpa using a3⟩, ?_, by omega, by omega⟩
          · rw [← bsOf_false]; exact hk hM4 (by omega)
          · exact hc40.own2 a5 (fun j hj => by
              rcases List.mem_cons.1 hj with e | e
              · omega
              · simp [Is.own, Is.cell, Value.ownBlock] at e)
        have HS := Lib.hid hstart
        clear hstart a1 a2 a3 a4 a5 hM4 hA4 hc4 hX4 hw4 hbM hbA x1 hmk
        go_wp2_with fail
        go_loopg [9] (Cp.dfsM G (fun _ => false) [a]) (fun d sv wr => ∃ (met : Nat → Bool) (l : List Nat), d = Cp.dfsM G met l ∧ Hid (LeadsAt w bA bM bX (.slice ga n gc) n G a met l wr))
        case atStart => exact ⟨_, _, rfl, HS⟩
        case round =>
          obtain ⟨met, l, rfl, hin⟩ := hrel
          obtain ⟨wq, rfl⟩ : ∃ wq, wq = wr := ⟨_, rfl⟩
          obtain ⟨d1, d2, d3, d4, ⟨A1, e1, e2, e3⟩, d5, d6, d7⟩ := hin.out
          have y1 := cells1 e3
          obtain ⟨q, hq⟩ : ∃ q, q = l.length := ⟨_, rfl⟩
          have hA1 : A1.cell = .slice A1.1 q A1.2.1 := by show Value.slice A1.1 A1.2.2.length A1.2.1 = _; rw [e1, natI_len, hq]
          rw [hA1] at y1
          obtain ⟨aa, haa⟩ : ∃ aa, aa = A1.1 := ⟨_, rfl⟩
          obtain ⟨ac, hac⟩ : ∃ ac, ac = A1.2.1 := ⟨_, rfl⟩
          rw [← haa, ← hac] at y1
          clear haa hac
          rcases List.eq_nil_or_concat l with hl | ⟨l', c, hl⟩
          · subst hl
            obtain rfl : q = 0 := hq
            have ym := rowB_cell d3 (bsOf_get met hbn)
            have hfin := Cp.dfs_end d1 b
            have HF := Lib.hid (And.intro hfin d5)
            clear d1 d2 d3 d4 d5 e1 e2 e3 hA1
            go_wp2_with fail
            go_ret
            refine ⟨ret_bool (a := met b) ?_, HF.out.2⟩
            rw [HG.out.2.2.2, Bool.eq_iff_iff, HF.out.1]
            have := Cp.wB_iff HG.out.1 (i := a) (k := b)
            rw [← HG.out.2.1] at this
            exact this.symm
          · rw [List.concat_eq_append] at hl
            subst hl
            have hcn := d1.up c (by simp)
            have hcn' : c < n := by rw [HG.out.2.1]; exact hcn.2
            have hqp : 0 < q := by rw [hq]; simp
            have hl5 := Cp.dfs_len (G := G) (met := met) (l := l' ++ [c])
            rw [List.length_append, List.length_singleton] at hl5
            have hpop := pop_any wq w.heap.size bA 0 _ 42 A1 (natI l') (c : Int) e3 rfl (by decide) e2 (by rw [e1, natI_append]; rfl)
            have HQ := Lib.hid (And.intro d1 (And.intro d2 (And.intro d3 (And.intro d4 (And.intro e1 (And.intro e2 (And.intro e3 (And.intro d5 (And.intro hpop hl5)))))))))
            clear d1 d2 d3 d4 d5 e1 e2 e3 hq hA1 hcn hpop hl5
            go_wp2_with fail
            refine HQ.out.2.2.2.2.2.2.2.2.1.mono ?_
            rintro e w6 ⟨rfl, p1, p2, p3, p4⟩
            have hM6 := p4.heap HQ.out.2.2.1 (fun hm => by
              have e9 := List.mem_singleton.1 hm
              have e8 := HQ.out.2.2.1
              rw [e9, HQ.out.2.2.2.2.2.2.1] at e8
              simp [rowB] at e8)
            have hX6 := p4.heap HQ.out.2.2.2.1 (fun hm => by
              have e9 := List.mem_singleton.1 hm
              have e8 := HQ.out.2.2.2.1
              rw [e9, HQ.out.2.2.2.2.2.2.1] at e8
              simp at e8)
            have hc6 := HQ.out.2.2.2.2.2.2.2.1.own2 p4 (fun j hj => by rw [List.mem_singleton.1 hj]; exact d6)
            have hA6 : w6.heap[bA]? = some (.cells #[Is.cell (A1.1, A1.2.1, natI l')] 42 (0, 0)) := by simpa using p2
            -- the number's box
            have hB7 := heap_alloc_same w6 (Obj.cells #[.int .i64 c] 3)
            have hc67 := (Chg.refl [] w6).alloc (Obj.cells #[.int .i64 c] 3)
            have hM7 := hc67.heap hM6 (by simp)
            have hX7 := hc67.heap hX6 (by simp)
            have hA7 := hc67.heap hA6 (by simp)
            have hr7 := hc67.row p1 (fun _ _ => by simp)
            have yB := cells1 hB7
            have yM := rowB_cell hM7 (bsOf_get met hcn')
            have yMf := rowB_free hM7 c
            have yX := cells1 hX7
            have hnot : ∀ k, Is.own (A1.1, A1.2.1, natI l') = some k → k ≠ w6.heap.size := fun k hk e => by
              have := (row_lt (X := (A1.1, A1.2.1, natI l')) p1 hk).2
              omega
            obtain ⟨mv, hmv⟩ : ∃ mv, mv = met c := ⟨_, rfl⟩
            rw [← hmv] at yM
            have H7 := Lib.hid (And.intro hM7 (And.intro hX7 (And.intro hA7 (And.intro hr7 (And.intro (hc6.tr0 hc67) (And.intro hnot (And.intro hmv hB7)))))))
            clear hM6 hX6 hA6 hM7 hX7 hA7 hr7 hc6 hc67 p1 p2 p3 p4 hnot hmv hB7
            cases mv with
            | true =>
              have hstep := Cp.dfs_old HQ.out.1 H7.out.2.2.2.2.2.2.1.symm
              have hmeas := Cp.dfsM_old (G := G) (c := c) (met := met) (l := l')
              have hle := HQ.out.2.1
              have HN : Hid (LeadsAt w bA bM bX (.slice ga n gc) n G a met l' (w6.alloc (Obj.cells #[.int .i64 c] 3))) := Lib.hid ⟨hstep, by omega, H7.out.1, H7.out.2.1, ⟨(A1.1, A1.2.1, natI l'), rfl, H7.out.2.2.2.1, H7.out.2.2.1⟩, H7.out.2.2.2.2.1, d6, d7⟩
              clear hstep
              go_wp2_with fail
              go_roundg (Cp.dfsM G met l')
              case measure => omega
              case rel => exact ⟨met, l', rfl, HN⟩
            | false =>
              obtain ⟨w7, hw7⟩ : ∃ w7, w7 = w6.alloc (Obj.cells #[.int .i64 c] 3) := ⟨_, rfl⟩
              have hMX : bX ≠ bM := fun e => by
                have e1 := H7.out.1
                have e2 := H7.out.2.1
                rw [e, e1] at e2
                simp [rowB] at e2
              have hMA : bA ≠ bM := fun e => by
                have e1 := H7.out.1
                have e2 := H7.out.2.2.1
                rw [e, e1] at e2
                simp [rowB] at e2
              have hMC : w6.heap.size ≠ bM := fun e => by
                have e1 := H7.out.1
                have e2 := H7.out.2.2.2.2.2.2.2
                rw [e, e1] at e2
                simp [rowB] at e2
              have hc8 : Chg [bM] w7 (w7.setCell ⟨bM, c, none⟩ (.bool true)) := (Chg.refl [bM] w7).setCell (p := ⟨bM, c, none⟩) (.inl (by simp)) _
              have hM8 := rowB_set true (i := c) H7.out.1
              rw [bsOf_set] at hM8
              go_upto_region 10 with fail
              clear yM yMf yX yB
              rw [← hw7] at hM8 ⊢
              obtain ⟨w8, hw8⟩ : ∃ w8, w8 = w7.setCell ⟨bM, c, none⟩ (.bool true) := ⟨_, rfl⟩
              rw [← hw8] at hM8 hc8 ⊢
              obtain ⟨bC, hbC⟩ : ∃ bC, bC = w6.heap.size := ⟨_, rfl⟩
              rw [← hbC] at hMC ⊢
              obtain ⟨q1, q2, q3, q4, q5, q6, q7, q8⟩ := H7.out
              rw [← hw7] at q1 q2 q3 q4 q5 q8
              rw [← hbC] at q8
              have hX8 := hc8.heap q2 (by simp [hMX])
              have hA8 := hc8.heap q3 (by simp [hMA])
              have hB8 := hc8.heap q8 (by simp [hMC])
              have hr8 := hc8.row q4 (fun k hk hm => by
                rw [List.mem_singleton.1 hm] at hk
                exact ownsRow_ne q4 (by rw [q1]; rfl) (by decide) hk)
              have hc80 := q5.own2 hc8 (fun j hj => by rw [List.mem_singleton.1 hj]; exact d7)
              obtain ⟨gb, go, ra, rc, rfl, k1, k2, k3⟩ := graph_row HG.out.2.2.1 (H.out.2.1.keep hc80.kp) (c := c) (by rw [← HG.out.2.1]; exact hcn')
              obtain ⟨m, hm⟩ : ∃ m, m = (Cp.row G c).length := ⟨_, rfl⟩
              rw [← hm] at k1 k3
              have yX := cells1 hX8
              have yB := cells1 hB8
              have heach := each_any w8 m (by omega) 30 #[] #[.pointer (some ⟨bA, 0, none⟩), .pointer (some ⟨bX, 0, none⟩), .pointer (some ⟨bC, 0, none⟩)] (enters_of Try.func30 (by kernel_rfl) rfl)
                (fun k W => AsideAt w bA bM bX bC (.slice (some ⟨gb, go, none⟩) n gc) (bsOf n (Cp.upd met c true)) c (l' ++ (Cp.row G c).take k) W)
                ⟨(A1.1, A1.2.1, natI l'), by simp, hr8, hA8, hM8, hX8, hB8, hc80, fun e => q6 bC e hbC, d6⟩
                (fun k hk W hW => by
                  have := leads1_any w W bA bM bX bC (some ⟨gb, go, none⟩) n gc VG G HG.out.1 HG.out.2.1 HG.out.2.2.1 H.out.2.1 (bsOf n (Cp.upd met c true)) c hcn' (l' ++ (Cp.row G c).take k) (by
                    have h1 := HQ.out.2.2.2.2.2.2.2.2.2
                    have h2 := HQ.out.2.1
                    have h3 := Cp.row_len HG.out.1 c
                    rw [List.length_append, List.length_take]
                    omega) k (by rw [← hm]; exact hk) hW
                  rw [List.append_assoc, ← List.take_succ_eq_append_getElem (by rw [← hm]; exact hk)] at this
                  exact this)
              have HE := Lib.hid (And.intro heach (And.intro hm q7))
              clear heach hw7 hw8 hbC q1 q2 q3 q4 q5 q6 q7 q8 hX8 hA8 hB8 hr8 hc80 hM8 hc8 k2 hm
              go_wp2_with fail
              refine HE.out.1.mono ?_
              rintro e w9 ⟨rfl, A9, b1, b2, b3, b4, b5, b6, b7, b8, b9⟩
              have hmet := HE.out.2.2.symm
              have hstep := Cp.dfs_new HG.out.1 HQ.out.1
              have hmeas := Cp.dfsM_new (G := G) (c := c) (met := met) (l := l') (by rw [← HG.out.2.1]; exact hcn') hmet
              have hle := HQ.out.2.1
              have HN : Hid (LeadsAt w bA bM bX (.slice (some ⟨gb, go, none⟩) n gc) n G a (Cp.upd met c true) (l' ++ Cp.row G c) w9) := Lib.hid ⟨hstep, by omega, b4, b5, ⟨A9, by rw [b1, HE.out.2.1, List.take_length], b2, b3⟩, b7, d6, d7⟩
              obtain ⟨M', hM'⟩ : ∃ M', M' = Cp.dfsM G (Cp.upd met c true) (l' ++ Cp.row G c) := ⟨_, rfl⟩
              rw [← hM'] at hmeas
              have HMM := Lib.hid (And.intro hM' hmeas)
              clear hstep b1 b2 b3 b4 b5 b6 b7 b8 b9 hmet yX yB hM' hmeas hle
              go_wp2_with fail
              go_roundg M'
              case measure => have := HMM.out.2; omega
              case rel => exact ⟨Cp.upd met c true, l' ++ Cp.row G c, HMM.out.1, HN⟩
end Go.Proofs.Ytplpboknmhgpiaa

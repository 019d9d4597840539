/-
  The kit's test whether two grammars are the same.
  Conditions: both read as data.
-/
import Derived.Test.YtibgfgfmljhimaaGreatWe9Ln3
import Derived.Test.YtibgfgfmljhimaaGreatWe9Bp0
import Derived.Test.YtibgfgfmljhimaaGreatWe9Ln4
import Derived.Test.YtibgfgfmljhimaaGreatWe9GCopy
set_option linter.unusedVariables false
set_option linter.unusedSimpArgs false
set_option linter.unnecessarySimpa false
namespace Go.Proofs.YtibgfgfmljhimaaGreat
open Go.RowKit Go.MapKept Go.Shelf

set_option maxRecDepth 100000 in
set_option maxHeartbeats 4000000 in
theorem kitSameRules_any (w : World) (a b : Option Addr) (n c m d' : Nat) (rs qs : List Rl) (hn : n = rs.length) (hm : m = qs.length) (hs : n ≤ 9223372036854775807) (hs2 : m ≤ 9223372036854775807) (hx : Rules w a rs) (hy : Rules w b qs) :
    Calls Tryz.prog 114 #[.slice a n c, .slice b m d'] w fun e w' => e = .returned (.bool (sameRs rs qs)) ∧ Chg [] w w' := by
  obtain ⟨R, hR⟩ : ∃ R, R = sameRs rs qs := ⟨_, rfl⟩
  rw [← hR]
  have H := Lib.hid (And.intro hn (And.intro hm (And.intro hx (And.intro hy hR))))
  clear hn hm hx hy hR
  by_cases hnm : n = m
  · subst hnm
    go_enter Tryz.func114, Tryz.ntmps114
    go_wp2_with fail
    go_loopg [5] n (fun d iv wr => ∃ k : Nat, d = n - k ∧ k ≤ n ∧ iv = .int .i64 k ∧ Hid (Chg [] w wr ∧ ∀ i (h1 : i < rs.length) (h2 : i < qs.length), i < k → sameR rs[i] qs[i] = true))
    case atStart => exact ⟨0, rfl, Nat.zero_le _, rfl, Lib.hid ⟨Chg.refl _ _, fun i _ _ hi => by omega⟩⟩
    case round =>
      obtain ⟨k, rfl, hk, rfl, hin⟩ := hrel
      obtain ⟨wq, rfl⟩ : ∃ wz, wz = wr := ⟨_, rfl⟩
      by_cases hlt : k < n
      · have hkx : k < rs.length := by have := H.out.1; omega
        have hky : k < qs.length := by have := H.out.2.1; omega
        obtain ⟨bx, ox, rfl, hx, hx'⟩ := (H.out.2.2.1.keep hin.out.1.kp) k hkx
        obtain ⟨bb, oy, rfl, hy, hy'⟩ := (H.out.2.2.2.1.keep hin.out.1.kp) k hky
        obtain ⟨zx, hzx⟩ : ∃ z, z = rs[k] := ⟨_, rfl⟩
        obtain ⟨zy, hzy⟩ : ∃ z, z = qs[k] := ⟨_, rfl⟩
        rw [← hzx] at hx hx'
        rw [← hzy] at hy hy'
        have HZ := Lib.hid (And.intro hzx hzy)
        clear hzx hzy
        by_cases hb1 : zx.name.toList = zy.name.toList
        · by_cases hb2 : zx.body = zy.body
          · have HB := Lib.hid (And.intro hb1 hb2)
            go_wp2_with fail
            go_quiet (fail)
            go_wp2_with fail
            go_roundg (n - (k + 1))
            case measure => omega
            case rel =>
              refine ⟨k + 1, rfl, by omega, by go_num, Lib.hid ⟨hin.out.1.drewN _, fun i h1 h2 hi => ?_⟩⟩
              by_cases e : i = k
              · subst e
                rw [← HZ.out.1, ← HZ.out.2, sameR, decide_eq_true_eq]
                exact HB.out
              · exact hin.out.2 i h1 h2 (by omega)
          · go_wp2_with fail
            go_quiet (fail)
            go_wp2_with fail
            go_ret
            refine ⟨ret_bool ?_, hin.out.1.drewN _⟩
            rw [H.out.2.2.2.2]
            symm
            rw [← Bool.not_eq_true, sameRs_iff]
            rintro ⟨_, k2⟩
            have := k2 k hkx hky
            rw [← HZ.out.1, ← HZ.out.2, sameR, decide_eq_true_eq] at this
            exact hb2 this.2
        · go_wp2_with fail
          go_quiet (fail)
          go_wp2_with fail
          go_ret
          refine ⟨ret_bool ?_, hin.out.1.drewN _⟩
          rw [H.out.2.2.2.2]
          symm
          rw [← Bool.not_eq_true, sameRs_iff]
          rintro ⟨_, k2⟩
          have := k2 k hkx hky
          rw [← HZ.out.1, ← HZ.out.2, sameR, decide_eq_true_eq] at this
          exact hb1 this.1
      · obtain rfl : k = n := by omega
        go_wp2_with fail
        go_ret
        refine ⟨ret_bool ?_, hin.out.1⟩
        rw [H.out.2.2.2.2]
        symm
        rw [sameRs_iff]
        exact ⟨by rw [← H.out.1, ← H.out.2.1], fun i h1 h2 => hin.out.2 i h1 h2 (by have := H.out.1; omega)⟩
  · have hR : R = false := by
      rw [H.out.2.2.2.2, ← Bool.not_eq_true, sameRs_iff]
      rintro ⟨h, _⟩
      exact hnm (by rw [H.out.1, H.out.2.1, h])
    subst hR
    go_enter Tryz.func114, Tryz.ntmps114
    go_wp2_with fail
    go_ret
    exact ⟨rfl, Chg.refl _ _⟩

set_option maxRecDepth 100000 in
set_option maxHeartbeats 4000000 in
theorem kitSameNodes_any (w : World) (a b : Option Addr) (n c m d' : Nat) (xs ys : List Nd) (hn : n = xs.length) (hm : m = ys.length) (hs : n ≤ 9223372036854775807) (hs2 : m ≤ 9223372036854775807) (hx : Nodes w a xs) (hy : Nodes w b ys) :
    Calls Tryz.prog 115 #[.slice a n c, .slice b m d'] w fun e w' => e = .returned (.bool (sameNs xs ys)) ∧ Chg [] w w' := by
  obtain ⟨R, hR⟩ : ∃ R, R = sameNs xs ys := ⟨_, rfl⟩
  rw [← hR]
  have H := Lib.hid (And.intro hn (And.intro hm (And.intro hx (And.intro hy hR))))
  clear hn hm hx hy hR
  by_cases hnm : n = m
  · subst hnm
    go_enter Tryz.func115, Tryz.ntmps115
    go_wp2_with fail
    go_loopg [5] n (fun d iv wr => ∃ k : Nat, d = n - k ∧ k ≤ n ∧ iv = .int .i64 k ∧ Hid (Chg [] w wr ∧ ∀ i (h1 : i < xs.length) (h2 : i < ys.length), i < k → sameN xs[i] ys[i] = true))
    case atStart => exact ⟨0, rfl, Nat.zero_le _, rfl, Lib.hid ⟨Chg.refl _ _, fun i _ _ hi => by omega⟩⟩
    case round =>
      obtain ⟨k, rfl, hk, rfl, hin⟩ := hrel
      obtain ⟨wq, rfl⟩ : ∃ wz, wz = wr := ⟨_, rfl⟩
      by_cases hlt : k < n
      · have hkx : k < xs.length := by have := H.out.1; omega
        have hky : k < ys.length := by have := H.out.2.1; omega
        obtain ⟨bx, ox, ax, nx, cx, rfl, hx⟩ := (H.out.2.2.1.keep hin.out.1.kp) k hkx
        obtain ⟨bb, oy, ay, ny, cy, rfl, hy⟩ := (H.out.2.2.2.1.keep hin.out.1.kp) k hky
        obtain ⟨zx, hzx⟩ : ∃ z, z = xs[k] := ⟨_, rfl⟩
        obtain ⟨zy, hzy⟩ : ∃ z, z = ys[k] := ⟨_, rfl⟩
        rw [← hzx] at hx
        rw [← hzy] at hy
        obtain ⟨r, hr⟩ : ∃ r, r = sameN zx zy := ⟨_, rfl⟩
        have hs3 : nx ≤ 9223372036854775807 := by have := hx.le; have := hx.cap; simp only [maxLen] at this; omega
        have cA := calls_rg (w := wq) (fun w1 h1 => kitSameNode_any w1 zx zy ax ay nx cx ny cy hx.len hy.len hs3 (hx.ints.keep h1.kp) (hy.ints.keep h1.kp))
        rw [← hr] at cA
        unfold Nd.cells at cA
        have e0 := cell_rg hx.k
        have e1 := cell_rg hx.c0
        have e2 := cell_rg hx.c1
        have e3 := cell_rg hx.c2
        have e4 := cell_rg hx.c3
        have e5 := cell_rg hx.s
        have e6 := cell_rg hx.r
        have e7 := cell_rg hx.l
        have e8 := cell_rg hx.kids
        have f0 := cell_rg hy.k
        have f1 := cell_rg hy.c0
        have f2 := cell_rg hy.c1
        have f3 := cell_rg hy.c2
        have f4 := cell_rg hy.c3
        have f5 := cell_rg hy.s
        have f6 := cell_rg hy.r
        have f7 := cell_rg hy.l
        have f8 := cell_rg hy.kids
        have HZ := Lib.hid (And.intro hzx (And.intro hzy hr))
        clear hzx hzy hr hx hy hs3
        go_wp2_with fail
        refine wp_region_quiet_below (by kernel_rfl) (by kernel_rfl) ?_
        repeat (go_big_quiet_step (first | (with_reducible exact cA _ _)))
        refine wpQuiet_nil ?_
        intro w4 hw4
        have H4 := Lib.hid (hin.out.1.tr (chg_of_rg hw4))
        clear hw4 cA e0 e1 e2 e3 e4 e5 e6 e7 e8 f0 f1 f2 f3 f4 f5 f6 f7 f8
        cases r with
        | true =>
          go_wp2_with fail
          go_roundg (n - (k + 1))
          case measure => omega
          case rel =>
            refine ⟨k + 1, rfl, by omega, by go_num, Lib.hid ⟨H4.out, fun i h1 h2 hi => ?_⟩⟩
            by_cases e : i = k
            · subst e
              rw [← HZ.out.1, ← HZ.out.2.1, ← HZ.out.2.2]
            · exact hin.out.2 i h1 h2 (by omega)
        | false =>
          go_wp2_with fail
          go_ret
          refine ⟨ret_bool ?_, H4.out⟩
          rw [H.out.2.2.2.2]
          symm
          rw [← Bool.not_eq_true, sameNs_iff]
          rintro ⟨_, k2⟩
          have := k2 k hkx hky
          rw [← HZ.out.1, ← HZ.out.2.1, ← HZ.out.2.2] at this
          cases this
      · obtain rfl : k = n := by omega
        go_wp2_with fail
        go_ret
        refine ⟨ret_bool ?_, hin.out.1⟩
        rw [H.out.2.2.2.2]
        symm
        rw [sameNs_iff]
        exact ⟨by rw [← H.out.1, ← H.out.2.1], fun i h1 h2 => hin.out.2 i h1 h2 (by have := H.out.1; omega)⟩
  · have hR : R = false := by
      rw [H.out.2.2.2.2, ← Bool.not_eq_true, sameNs_iff]
      rintro ⟨h, _⟩
      exact hnm (by rw [H.out.1, H.out.2.1, h])
    subst hR
    go_enter Tryz.func115, Tryz.ntmps115
    go_wp2_with fail
    go_ret
    exact ⟨rfl, Chg.refl _ _⟩

set_option maxRecDepth 100000 in
set_option maxHeartbeats 2000000 in
theorem kitSameGram_any (w : World) (a1 : Option Addr) (n1 c1 : Nat) (a2 : Option Addr) (n2 c2 : Nat) (g : Gr) (b1 : Option Addr) (m1 d1 : Nat) (b2 : Option Addr) (m2 d2 : Nat) (h : Gr) (hg : GramAt w a1 n1 c1 a2 n2 c2 g) (hh : GramAt w b1 m1 d1 b2 m2 d2 h) :
    Calls Tryz.prog 78 #[.agg #[.slice a1 n1 c1, .slice a2 n2 c2], .agg #[.slice b1 m1 d1, .slice b2 m2 d2]] w fun e w' => e = .returned (.bool (sameG g h)) ∧ Chg [] w w' := by
  obtain ⟨r, hr⟩ : ∃ r, r = sameRs g.rules h.rules := ⟨_, rfl⟩
  obtain ⟨s, hs⟩ : ∃ s, s = sameNs g.nodes h.nodes := ⟨_, rfl⟩
  rw [sameG, ← hr, ← hs]
  have hc1 := ((Chg.refl [] w).alloc (.cells #[.slice a1 n1 c1, .slice a2 n2 c2] 25)).alloc (.cells #[.slice b1 m1 d1, .slice b2 m2 d2] 25)
  have hb0 := heap_alloc_lt (heap_alloc_same w (.cells #[.slice a1 n1 c1, .slice a2 n2 c2] 25)) (.cells #[.slice b1 m1 d1, .slice b2 m2 d2] 25)
  have hb1 := heap_alloc_same (w.alloc (.cells #[.slice a1 n1 c1, .slice a2 n2 c2] 25)) (.cells #[.slice b1 m1 d1, .slice b2 m2 d2] 25)
  simp only [World.size_alloc] at hb1
  have hp := fun (W : World) (hW : Chg [] w W) => kitSameRules_any W a1 b1 n1 c1 m1 d1 g.rules h.rules hg.e1 hh.e1 hg.small.1 hh.small.1 (hg.rules.keep hW.kp) (hh.rules.keep hW.kp)
  have hq := fun (W : World) (hW : Chg [] w W) => kitSameNodes_any W a2 b2 n2 c2 m2 d2 g.nodes h.nodes hg.e2 hh.e2 hg.small.2 hh.small.2 (hg.nodes.keep hW.kp) (hh.nodes.keep hW.kp)
  rw [← hr] at hp
  rw [← hs] at hq
  have H := Lib.hid (And.intro hp (And.intro hq (And.intro hc1 (And.intro hb0 hb1))))
  clear hp hq hc1 hr hs hg hh
  go_enter Tryz.func78, Tryz.ntmps78
  obtain ⟨x0, x1⟩ := cells2 hb0
  obtain ⟨y0, y1⟩ := cells2 hb1
  clear hb0 hb1
  go_wp2_with fail
  refine (H.out.1 _ H.out.2.2.1).mono ?_
  rintro e w2 ⟨rfl, hc2⟩
  have H2 := Lib.hid (And.intro (H.out.2.2.1.tr hc2) (And.intro (hc2.heap H.out.2.2.2.1 (by simp)) (hc2.heap H.out.2.2.2.2 (by simp))))
  clear hc2 x0 x1 y0 y1
  cases r with
  | false =>
    go_wp2_with fail
    go_ret
    exact ⟨by simp, H2.out.1⟩
  | true =>
    obtain ⟨x0, x1⟩ := cells2 H2.out.2.1
    obtain ⟨y0, y1⟩ := cells2 H2.out.2.2
    go_wp2_with fail
    refine (H.out.2.1 _ H2.out.1).mono ?_
    rintro e w3 ⟨rfl, hc3⟩
    have H3 := Lib.hid (H2.out.1.tr hc3)
    clear hc3 x0 x1 y0 y1
    go_wp2_with fail
    go_ret
    exact ⟨by simp, H3.out⟩
end Go.Proofs.YtibgfgfmljhimaaGreat
set_option linter.unusedVariables false
set_option linter.unusedSimpArgs false
set_option linter.unnecessarySimpa false
namespace Go.Proofs.YtibgfgfmljhimaaGreat
open Go.RowKit Go.MapKept Go.Shelf

theorem Tryz.infoGram : (Tryz.prog.info? 25).map (fun i => (i.zero, i.size, i.bytes)) = some (some (.agg #[.slice none 0 0, .slice none 0 0]), 2, 48) := by kernel_rfl
theorem two_setQ {w : World} {b : Nat} {t : TypeId} {u0 u1 : Value} (v0 v1 : Value) (h : w.heap[b]? = some (.cells #[u0, u1] t (0, 0))) :
    ∃ W, W = (w.setCell ⟨b, 0, none⟩ v0).setCell ⟨b, 1, none⟩ v1 ∧ W.heap[b]? = some (.cells #[v0, v1] t (0, 0)) ∧ Chg [b] w W := by
  refine ⟨_, rfl, ?_, ((Chg.refl [b] w).setCell (p := ⟨b, 0, none⟩) (.inl (by simp)) _).setCell (p := ⟨b, 1, none⟩) (.inl (by simp)) _⟩
  simpa using heap_setCell_same (heap_setCell_same h 0 v0) 1 v1
/-- A row of one rule, marked. -/
def grEl (W : World) (b : Nat) (z : Int) : Prop := W.ownsRow 0 43 2 (.slice (some ⟨b, 0, none⟩) 1 1) 1 [.string ⟨#[]⟩, .int .i64 z]
theorem grEl.chg0 {W W' : World} {b : Nat} {z : Int} (h : grEl W b z) (hc : Chg [] W W') : grEl W' b z := hc.row h (fun _ _ => by simp)
theorem markZ_i64 {k i : Int} (h1 : 0 ≤ k) (h2 : k ≤ 1000000) (h3 : 0 ≤ i) (h4 : i ≤ 1099511627776) : I64 (markZ k i) := by unfold markZ I64; omega
def kdR : Kd := ⟨43, 22, 2, 3, fun W k i l => l = [.string ⟨#[]⟩, .int .i64 (markZ k i)]⟩
theorem oqR : kdR.Ok where
  pos := by decide
  ne1 := by decide
  ne2 := by decide
  ne3 := by decide
  len := by rintro W k i l rfl; rfl
  stable := by rintro W W' T k i l hc hT rfl; rfl
def kdN : Kd := ⟨53, 23, 9, 3, fun W k i l => l = [.int .i64 0, .int .u64 0, .int .u64 0, .int .u64 0, .int .u64 0, .string ⟨#[]⟩, .int .i64 (markZ k i), .int .i64 0, .slice none 0 0]⟩
theorem oqN : kdN.Ok where
  pos := by decide
  ne1 := by decide
  ne2 := by decide
  ne3 := by decide
  len := by rintro W k i l rfl; rfl
  stable := by rintro W W' T k i l hc hT rfl; rfl
def kdG : Kd := ⟨25, 74, 2, 43, fun W k i l => ∃ bb, l = [.slice (some ⟨bb, 0, none⟩) 1 1, .slice none 0 0] ∧ grEl W bb (markZ k i)⟩
theorem oqG : kdG.Ok where
  pos := by decide
  ne1 := by decide
  ne2 := by decide
  ne3 := by decide
  len := by rintro W k i l ⟨bb, rfl, _⟩; rfl
  stable := by
    rintro W W' T k i l hc hT ⟨bb, rfl, h⟩
    exact ⟨bb, rfl, hc.rowOf h hT⟩

set_option maxRecDepth 100000 in
theorem markNode_lit (w : World) (k i : Int) (h1 : 0 ≤ k) (h2 : k ≤ 1000000) (h3 : 0 ≤ i) (h4 : i ≤ 1099511627776) :
    Calls Tryz.prog 124 #[.int .i64 k, .int .i64 i] w fun e w' => e = .returned (.agg #[.int .i64 0, .int .u64 0, .int .u64 0, .int .u64 0, .int .u64 0, .string ⟨#[]⟩, .int .i64 (markZ k i), .int .i64 0, .slice none 0 0]) ∧ Chg [] w w' := markNode_any w k i h1 h2 h3 h4

set_option maxRecDepth 100000 in
set_option maxHeartbeats 2000000 in
theorem markGrammar_any (w : World) (k i : Int) (h1 : 0 ≤ k) (h2 : k ≤ 1000000) (h3 : 0 ≤ i) (h4 : i ≤ 1099511627776) :
    Calls Tryz.prog 165 #[.int .i64 k, .int .i64 i] w fun e w' => ∃ bb, e = .returned (.agg #[.slice (some ⟨bb, 0, none⟩) 1 1, .slice none 0 0]) ∧ grEl w' bb (markZ k i) ∧ Chg [] w w' := by
  go_enter Tryz.func165, Tryz.ntmps165
  go_wp2_with fail
  refine (mark_any _ k i h1 h2 h3 h4).mono ?_
  rintro e w2 ⟨rfl, hc2⟩
  obtain ⟨mz, hmz⟩ : ∃ mz, mz = markZ k i := ⟨_, rfl⟩
  rw [← hmz]
  have hb := hc2.heap (heap_alloc_same w (.cells #[.slice none 0 0, .slice none 0 0] 25)) (by simp)
  obtain ⟨x0, x1⟩ := cells2 hb
  have f0 := free_of_cells hb 0
  have f1 := free_of_cells hb 1
  have hlt := lt_of_block hb
  have HC := Lib.hid (And.intro hb (And.intro hc2 hmz))
  clear hb hc2 hmz
  go_wp2_with fail
  obtain ⟨w4, e4, z, hch⟩ := two_setQ (.slice (some ⟨w2.heap.size, 0, none⟩) 1 1) (.slice none 0 0) HC.out.1
  rw [← e4]
  have hs4 : w4.heap.size = w2.heap.size := by rw [e4]; simp [World.setCell]
  have hn := heap_alloc_same w4 (.cells #[.string ⟨#[]⟩, .int .i64 mz] 43)
  rw [hs4] at hn
  have hz := heap_alloc_lt z (.cells #[.string ⟨#[]⟩, .int .i64 mz] 43)
  obtain ⟨q0, q1⟩ := cells2 hz
  have hzl := lt_of_block hz
  refine bodyPost_ret (v := .agg #[.slice (some ⟨w2.heap.size, 0, none⟩) 1 1, .slice none 0 0]) (by simp [results, Tryz.results165, go_sem, q0, q1, hzl]) rfl ?_
  refine ⟨_, rfl, ?_, ((((Chg.refl [] w).alloc (.cells #[.slice none 0 0, .slice none 0 0] 25)).tr HC.out.2.1).trans hch (fun j hj => .inr (by simp at hj; omega))).alloc _⟩
  rw [← HC.out.2.2]
  exact ⟨rfl, .inr ⟨w2.heap.size, 1, _, rfl, Nat.zero_le _, hn, Nat.le_refl _, by decide, rfl, rfl⟩⟩

theorem sameNode_mark (w : World) (mz : Int) : Calls Tryz.prog 130 #[.agg #[.int .i64 0, .int .u64 0, .int .u64 0, .int .u64 0, .int .u64 0, .string ⟨#[]⟩, .int .i64 mz, .int .i64 0, .slice none 0 0], .agg #[.int .i64 0, .int .u64 0, .int .u64 0, .int .u64 0, .int .u64 0, .string ⟨#[]⟩, .int .i64 mz, .int .i64 0, .slice none 0 0]] w fun e w' => e = .returned (.bool true) ∧ Chg [] w w' := by
  have h := kitSameNode_any w { bareN 0 with r := mz } { bareN 0 with r := mz } none none 0 0 0 0 rfl rfl (by omega) (Ints.nil _ _) (Ints.nil _ _)
  have e : sameN { bareN 0 with r := mz } { bareN 0 with r := mz } = true := by simp [sameN]
  rw [e] at h
  exact h
theorem sameGram_mark (w : World) (b1 b2 : Nat) (mz : Int) (hz : I64 mz) (h1 : grEl w b1 mz) (h2 : grEl w b2 mz) :
    Calls Tryz.prog 78 #[.agg #[.slice (some ⟨b1, 0, none⟩) 1 1, .slice none 0 0], .agg #[.slice (some ⟨b2, 0, none⟩) 1 1, .slice none 0 0]] w fun e w' => e = .returned (.bool true) ∧ Chg [] w w' := by
  have key : ∀ b, grEl w b mz → GramAt w (some ⟨b, 0, none⟩) 1 1 none 0 0 ⟨[⟨⟨#[]⟩, mz⟩], []⟩ := fun b hb => by
    obtain ⟨k1, k2, k3, k4⟩ := rules_row (rs := [⟨⟨#[]⟩, mz⟩]) (a := some ⟨b, 0, none⟩) (n := 1) (c := 1) (w := w) (by exact hb)
    refine ⟨rfl, Nat.le_refl _, by decide, k1, rfl, Nat.le_refl _, by decide, (fun i hi => by cases hi), ⟨(fun x hx => by cases hx), fun r hr => ?_, fun r hr => ?_⟩⟩
    · simp only [List.mem_singleton] at hr; subst hr; show (ByteArray.mk #[]).size ≤ maxLen; decide
    · simp only [List.mem_singleton] at hr; subst hr; exact hz
  have h := kitSameGram_any w _ _ _ _ _ _ _ _ _ _ _ _ _ _ (key b1 h1) (key b2 h2)
  have e : sameG ⟨[⟨⟨#[]⟩, mz⟩], []⟩ ⟨[⟨⟨#[]⟩, mz⟩], []⟩ = true := by simp [sameG, sameRs, sameNs, sameR]
  rw [e] at h
  exact h
end Go.Proofs.YtibgfgfmljhimaaGreat

/-
  NullAhead: what the law computes.
  Conditions: the grammar reads av data, within the reach.
-/
import Derived.Test.YtibgfgfmljhimaaNH0
import Derived.Test.YtibgfgfmljhimaaNAw
import Derived.Test.YtibgfgfmljhimaaNN3
import Derived.Test.YtibgfgfmljhimaaNH2
import Derived.Test.YtibgfgfmljhimaaGAny
set_option linter.unusedVariables false
set_option linter.unusedSimpArgs false
set_option linter.unnecessarySimpa false
namespace Go.Proofs.Ytibgfgfmljhimaa
open Go.RowKit Go.MapKept Go.Shelf

/-- The bodies, so far. -/
structure Wraps (w3 : World) (g : Gr) (i : Nat) (ah : Option Addr) (ch : Nat) (av : Option Addr) (cs : Nat) (wr : World) : Prop where
  ex : ∃ VH VS : List Vs, VH.length = i ∧ VS.length = i ∧ VH.map Vs.data = (wrapL hardP g).take i ∧ VS.map Vs.data = (wrapL softP g).take i ∧ OwnBs w3.heap.size wr ah ch VH ∧ OwnBs w3.heap.size wr av cs VS
  ne : ∀ k, (Value.slice ah i ch).ownBlock = some k → (Value.slice av i cs).ownBlock = some k → False
  chg : Chg [] w3 wr
theorem Wraps.start (w3 : World) (g : Gr) : Wraps w3 g 0 none 0 none 0 w3 := ⟨⟨[], [], rfl, rfl, rfl, rfl, OwnBs.nil _ _, OwnBs.nil _ _⟩, (fun k h => by cases h), Chg.refl _ _⟩
theorem vs_cell_one (p : Vs) : ∀ u ∈ [p.cell], u.oneCell' = true := by simp [Vs.cell, Value.oneCell']
/-- One list grows beside another one. -/
theorem grow_two {w3 w4 w5 : World} {i j : Nat} {ah ah' av : Option Addr} {ch ch' cs : Nat} {VH VS : List Vs} {p : Vs} (h5 : OwnBs w3.heap.size w4 ah ch VH) (h6 : OwnBs w3.heap.size w4 av cs VS) (h1 : VH.length = i) (h2 : VS.length = j)
    (hne : ∀ k, (Value.slice ah i ch).ownBlock = some k → (Value.slice av j cs).ownBlock = some k → False) (hp : OwnN w3.heap.size w4 p.1 p.2.1 p.2.2)
    (hr : w5.ownsRow w3.heap.size 23 1 (.slice ah' (i + 1) ch') (i + 1) (VH.map Vs.cell ++ [p.cell])) (hg : w4.grownBy w5 (Value.slice ah i ch).ownBlock)
    (hb : (Value.slice ah' (i + 1) ch').ownBlock = (Value.slice ah i ch).ownBlock ∨ (Value.slice ah' (i + 1) ch').ownBlock = some w4.heap.size) (hc : Chg [] w3 w4) :
    OwnBs w3.heap.size w5 ah' ch' (VH ++ [p]) ∧ OwnBs w3.heap.size w5 av cs VS ∧ (∀ k, (Value.slice ah' (i + 1) ch').ownBlock = some k → (Value.slice av j cs).ownBlock = some k → False) ∧ Chg [] w3 w5 ∧ ∀ a c L, OwnN w3.heap.size w4 a c L → OwnN w3.heap.size w5 a c L := by
  subst h1 h2
  have hcg : Chg (Value.slice ah VH.length ch).ownBlock.toList w4 w5 := (Chg.refl _ w4).grown hg (fun k hk => .inl (by rw [hk]; simp))
  have hS : ∀ k ∈ (Value.slice ah VH.length ch).ownBlock.toList, NotRow w4 32 k ∧ NotRow w4 3 k := by
    intro k hk
    simp only [Option.mem_toList] at hk
    exact ⟨row_notrow h5.row hk (by decide), row_notrow h5.row hk (by decide)⟩
  refine ⟨h5.snoc hp hr hg, h6.apart hcg hS (fun k hk hm => ?_), fun k hk hk2 => ?_, hc.trans hcg (fun j hj => .inr ?_), fun a c L h => h.chg hcg hS⟩
  · simp only [Option.mem_toList] at hm
    exact hne k hm hk
  · rcases hb with hb | hb
    · rw [hb] at hk
      exact hne k hk hk2
    · rw [hb] at hk
      cases hk
      have := (row_beyond h6.row hk2).2.1
      omega
  · simp only [Option.mem_toList] at hj
    exact (row_beyond h5.row hj).1
theorem hardP_len : hardP.length = 2 := rfl
theorem softP_len : softP.length = 1 := rfl
theorem data_len (p : Vs) : p.data.length = p.2.2.length := by simp [Vs.data]

set_option maxRecDepth 100000 in
set_option maxHeartbeats 16000000 in
theorem nullAheadLaw_any (w : World) (a1 : Option Addr) (n1 c1 : Nat) (a2 : Option Addr) (n2 c2 : Nat) (g : Gr) (hg : GramAt w a1 n1 c1 a2 n2 c2 g) (hre : Reach g) :
    Calls Try.prog 10 #[.agg #[.slice a1 n1 c1, .slice a2 n2 c2]] w fun e w' => e = .returned (.bool true) ∧ Chg [] w w' := by
  obtain ⟨i0, hi0, hz0, hz1, hz2⟩ := info_parts Try.infoBodies
  have H := Lib.hid (And.intro hg (And.intro hre (And.intro hg.e1 hg.e2)))
  clear hg hre
  go_enter Try.func10, Try.ntmps10
  go_wp2_with fail
  refine (awake11_any _).mono ?_
  rintro e w1 ⟨rfl, hc1⟩
  have hb1 := hc1.heap (heap_alloc_same _ _) (by simp)
  have H1 := Lib.hid (And.intro hb1 (((Chg.refl [] w).alloc _).tr0 hc1))
  clear hc1 hb1
  obtain ⟨x0, x1⟩ := cells2 H1.out.1
  go_wp2_with fail
  refine (size11_any _ a1 n1 c1 a2 n2 c2 g (H.out.1.keep H1.out.2.kp) H.out.2.1).mono ?_
  rintro e w2 ⟨m, rfl, hm1, hm2, hc2⟩
  have H2 := Lib.hid (And.intro (hc2.heap H1.out.1 (by simp)) (H1.out.2.tr hc2))
  clear hc2 x0 x1
  by_cases hm : (300 : Int) < m
  · go_wp2_with fail
    go_ret
    exact ⟨rfl, H2.out.2⟩
  · have hsm : smallG g := by
      by_cases hq : smallG g
      · exact hq
      · exact absurd (hm2 hq) hm
    clear hm1 hm2
    obtain ⟨z1, z2, z3⟩ := kids_few hsm
    have hn1 : n1 ≤ 300 := by have := H.out.2.2.1; omega
    have hn2 : n2 ≤ 300 := by have := H.out.2.2.2; omega
    have HK := Lib.hid z3
    clear hsm z1 z2 z3
    obtain ⟨x0, x1⟩ := cells2 H2.out.1
    go_wp2_with fail
    refine (Right_any _ a1 n1 c1 a2 n2 c2 g (H.out.1.keep H2.out.2.kp)).mono ?_
    rintro e w3 ⟨rfl, hc3⟩
    have H3 := Lib.hid (And.intro (hc3.heap H2.out.1 (by simp)) (H2.out.2.tr hc3))
    clear hc3 x0 x1
    obtain ⟨x0, x1⟩ := cells2 H3.out.1
    cases hr : rightB g with
    | false =>
      go_wp2_with fail
      go_ret
      exact ⟨rfl, H3.out.2⟩
    | true =>
      have HR := Lib.hid hr
      clear hr
      go_wp2_with fail
      clear x0 x1
      go_loopg [5, 3, 4] n1 (fun d iv hv sv wr => ∃ (i qh qs ch cs : Nat) (ah av : Option Addr), d = n1 - i ∧ i ≤ n1 ∧ iv = .int .i64 i ∧ hv = .slice ah qh ch ∧ sv = .slice av qs cs ∧ qh = i ∧ qs = i ∧ Hid (Wraps w3 g i ah ch av cs wr))
      case atStart => exact ⟨0, 0, 0, 0, 0, none, none, rfl, Nat.zero_le _, rfl, rfl, rfl, rfl, rfl, Lib.hid (Wraps.start w3 g)⟩
      case round =>
        obtain ⟨i, qh, qs, ch, cs, ah, av, rfl, hi, rfl, rfl, rfl, hqh, hqs, hin⟩ := hrel
        obtain ⟨wq, rfl⟩ : ∃ wz, wz = wr := ⟨_, rfl⟩
        have HQ := Lib.hid (And.intro hqh hqs)
        clear hqh hqs
        obtain ⟨x0, x1⟩ := cells2 (hin.out.chg.heap H3.out.1 (by simp))
        by_cases hlt : i < n1
        · have hir : i < g.rules.length := by have := H.out.2.2.1; omega
          obtain ⟨bd, hbd⟩ : ∃ bd, bd = bodyOf g g.rules[i].body := ⟨_, rfl⟩
          have hbody := body11_any wq a1 n1 c1 a2 n2 c2 g (H.out.1.keep (H3.out.2.tr hin.out.chg).kp) HR.out i hir hn2 HK.out
          rw [← hbd] at hbody
          have htight : Tight bd := by rw [hbd]; exact body_tight HR.out (by have := H.out.2.2.2; omega) HK.out hir
          have hbd2 : (wrapL hardP g)[i]? = some (hardP ++ movedL bd 2) ∧ (wrapL softP g)[i]? = some (softP ++ movedL bd 1) := by
            constructor
            · rw [List.getElem?_eq_getElem (by rw [wrapL_len]; exact hir), wrapL_at _ _ hir, ← hbd]; rfl
            · rw [List.getElem?_eq_getElem (by rw [wrapL_len]; exact hir), wrapL_at _ _ hir, ← hbd]; rfl
          have HB := Lib.hid (And.intro hbody (And.intro htight hbd2))
          clear hbody htight hbd2 hbd hir
          go_wp2_with fail
          refine HB.out.1.mono ?_
          rintro e w4 ⟨ba, bc, Lb, rfl, hLb, hOb, hc4⟩
          have H4 := Lib.hid (And.intro hLb (And.intro hOb hc4))
          clear hLb hOb hc4 x0 x1
          go_wp2_with fail
          refine (Leaf_any _ _).mono ?_
          rintro e w5 ⟨la, lc, rfl, nl, -, -, hc5⟩
          have nb5 : Nodes w5 ba bd := by have := (H4.out.2.1.chg0 hc5).read.1; rw [H4.out.1] at this; exact this
          have H5 := Lib.hid (And.intro nl (And.intro nb5 hc5))
          clear nl nb5 hc5
          go_wp2_with fail
          refine (Chain_any _ la lc _ ba bc bd H5.out.1 (small_of (by decide +kernel)) H5.out.2.1 HB.out.2.1.small (by have := HB.out.2.1.len; simp; omega)).mono ?_
          rw [ofL_hard]
          rintro e w6 ⟨ca, cc, Lc, rfl, hLc, hOc, hc6⟩
          obtain ⟨hl, hhl⟩ : ∃ hl, hl = (hardP ++ movedL bd 2).length := ⟨_, rfl⟩
          rw [← hhl]
          have hLcl : Lc.length = hl := by rw [hhl, ← hLc]; simp
          have hc46 : Chg [] wq w6 := (H4.out.2.2.tr H5.out.2.2).tr hc6
          obtain ⟨VH, VS, v1, v2, v3, v4, v5, v6⟩ := hin.out.ex
          have hcA := (Chg.refl [] w6).alloc (.cells #[.slice ca hl cc] 23)
          have hrow := ((v5.chg0 hc46).chg0 hcA).row
          rw [v1] at hrow
          have hnew := cells_at (w := w6.alloc (.cells #[.slice ca hl cc] 23)) (heap_alloc_same _ _)
          have h1' : ∀ u ∈ [Value.slice ca hl cc], u.oneCell' = true := by simp [Value.oneCell']
          have h2' : i + 1 ≤ maxLen ∧ (i + 1) * 24 ≤ 140737488355328 := by simp only [maxLen]; omega
          have hb' : w3.heap.size ≤ (w6.alloc (.cells #[.slice ca hl cc] 23)).heap.size := ((hin.out.chg.tr hc46).tr hcA).size
          have hcell : Vs.cell (ca, cc, Lc) = .slice ca hl cc := by simp [Vs.cell, hLcl]
          have H6 := Lib.hid (And.intro hrow (And.intro hnew (And.intro h1' (And.intro h2' (And.intro hb' (And.intro hLc (And.intro (hOc.below (H4.out.2.2.tr H5.out.2.2).size) (And.intro (hc46.tr hcA) hcell))))))))
          have HVS := Lib.hid (And.intro v1 (And.intro v2 (And.intro v3 (And.intro v4 (And.intro v5 v6)))))
          have HL := Lib.hid (And.intro hhl hc6)
          obtain ⟨hqh, hqs⟩ := HQ.out
          subst hqh
          clear hrow hnew h1' h2' hb' hLc hOc hc46 hcA hcell v1 v2 v3 v4 v5 v6 hhl hLcl hc6 hqs
          go_wp2_with (at_builtin; refine wpList_append_own_at _ rfl _ _ 61 rfl w3.heap.size 23 i0 _ 1 24 Try.underlying61 hi0 hz0 hz1 hz2 rfl (by decide) (.slice ah qh ch) qh (VH.map Vs.cell) rfl H6.out.1 ⟨w6.heap.size, 0, none⟩ 1 1 [.slice ca hl cc] rfl rfl H6.out.2.1 H6.out.2.2.1 H6.out.2.2.2.1.1 H6.out.2.2.2.1.2 H6.out.2.2.2.2.1 ?_; intro v' w7 hr7 hg7 hn7 hb7; obtain ⟨a7, c7, rfl⟩ := ownsRow_slice hr7; have HW := Lib.hid (And.intro hr7 (And.intro hg7 hb7)); clear hr7 hg7 hn7 hb7)
          obtain ⟨v1, v2, v3, v4, v5, v6⟩ := HVS.out
          have hcw := H6.out.2.2.2.2.2.2.2.1
          have hcA6 := (Chg.refl [] w6).alloc (.cells #[.slice ca hl cc] 23)
          have hqs : qs = qh := HQ.out.2
          obtain ⟨u1, u2, u3, u4, u5⟩ := grow_two (p := (ca, cc, Lc)) (v5.chg0 hcw) (v6.chg0 hcw) v1 v2 hin.out.ne ((H6.out.2.2.2.2.2.2.1.chg0 hcA6).below hin.out.chg.size) (by rw [H6.out.2.2.2.2.2.2.2.2]; exact HW.out.1) HW.out.2.1 HW.out.2.2 (hin.out.chg.tr hcw)
          have hOb6 : OwnN w3.heap.size (w6.alloc (.cells #[.slice ca hl cc] 23)) ba bc Lb := ((H4.out.2.1.chg0 (H5.out.2.2.tr (HL.out.2.tr hcA6))).below hin.out.chg.size)
          have hOb7 := u5 _ _ _ hOb6
          have nb7 : Nodes w7 ba bd := by have := hOb7.read.1; rw [H4.out.1] at this; exact this
          have H7 := Lib.hid (And.intro u1 (And.intro u2 (And.intro u3 (And.intro u4 nb7))))
          clear v1 v2 v3 v4 v5 v6 hcw hcA6 u1 u2 u3 u4 u5 hOb6 hOb7 nb7
          refine (In_any _ 10 ba bc bd H7.out.2.2.2.2 HB.out.2.1.small).mono ?_
          rw [ofL_soft]
          rintro e w8 ⟨sa, sc, Ls, rfl, hLs, hOs, hc8⟩
          obtain ⟨sl, hsl⟩ : ∃ sl, sl = (softP ++ movedL bd 1).length := ⟨_, rfl⟩
          rw [← hsl]
          have hLsl : Ls.length = sl := by rw [hsl, ← hLs]; simp
          have hcA8 := hc8.alloc (.cells #[.slice sa sl sc] 23)
          have hcell8 : Vs.cell (sa, sc, Ls) = .slice sa sl sc := by simp [Vs.cell, hLsl]
          have hrow8 := (H7.out.2.1.chg0 hcA8).row
          rw [HVS.out.2.1] at hrow8
          have hnew8 := cells_at (w := w8.alloc (.cells #[.slice sa sl sc] 23)) (heap_alloc_same _ _)
          have h18 : ∀ u ∈ [Value.slice sa sl sc], u.oneCell' = true := by simp [Value.oneCell']
          have h28 : qh + 1 ≤ maxLen ∧ (qh + 1) * 24 ≤ 140737488355328 := by simp only [maxLen]; omega
          have hb8 : w3.heap.size ≤ (w8.alloc (.cells #[.slice sa sl sc] 23)).heap.size := (H7.out.2.2.2.1.tr hcA8).size
          have H8 := Lib.hid (And.intro hrow8 (And.intro hnew8 (And.intro h18 (And.intro h28 (And.intro hb8 (And.intro hLs (And.intro ((hOs.chg0 ((Chg.refl [] w8).alloc (.cells #[.slice sa sl sc] 23))).below H7.out.2.2.2.1.size) (And.intro hcA8 (And.intro hcell8 hsl)))))))))
          subst hqs
          clear hrow8 hnew8 h18 h28 hb8 hLs hOs hc8 hcA8 hcell8 hLsl hsl
          go_wp2_with (at_builtin; refine wpList_append_own_at _ rfl _ _ 61 rfl w3.heap.size 23 i0 _ 1 24 Try.underlying61 hi0 hz0 hz1 hz2 rfl (by decide) (.slice av qs cs) qs (VS.map Vs.cell) rfl H8.out.1 ⟨w8.heap.size, 0, none⟩ 1 1 [.slice sa sl sc] rfl rfl H8.out.2.1 H8.out.2.2.1 H8.out.2.2.2.1.1 H8.out.2.2.2.1.2 H8.out.2.2.2.2.1 ?_; intro v' w9 hr9 hg9 hn9 hb9; obtain ⟨a9, c9, rfl⟩ := ownsRow_slice hr9; have HX := Lib.hid (And.intro hr9 (And.intro hg9 hb9)); clear hr9 hg9 hn9 hb9)
          go_roundg (n1 - (qs + 1))
          case measure => omega
          case rel =>
            obtain ⟨v1, v2, v3, v4, v5, v6⟩ := HVS.out
            have hc79 := H8.out.2.2.2.2.2.2.2.1
            obtain ⟨t1, t2, t3, t4, _⟩ := grow_two (p := (sa, sc, Ls)) (H7.out.2.1.chg0 hc79) (H7.out.1.chg0 hc79) v2 (show (VH ++ [(ca, cc, Lc)]).length = qs + 1 by simp [v1]) (fun k h1 h2 => H7.out.2.2.1 k h2 h1) H8.out.2.2.2.2.2.2.1 (by rw [H8.out.2.2.2.2.2.2.2.2.1]; exact HX.out.1) HX.out.2.1 HX.out.2.2 (H7.out.2.2.2.1.tr hc79)
            refine ⟨qs + 1, qs + 1, qs + 1, c7, c9, a7, a9, rfl, by omega, by go_num, rfl, rfl, rfl, rfl, Lib.hid ⟨⟨VH ++ [(ca, cc, Lc)], VS ++ [(sa, sc, Ls)], by simp [v1], by simp [v2], ?_, ?_, t2, t1⟩, fun k h1 h2 => t3 k h2 h1, t4⟩⟩
            · rw [List.map_append, v3, List.take_add_one, HB.out.2.2.1]
              simp only [List.map_cons, List.map_nil, Option.toList_some]
              congr 2
              exact H6.out.2.2.2.2.2.1
            · rw [List.map_append, v4, List.take_add_one, HB.out.2.2.2]
              simp only [List.map_cons, List.map_nil, Option.toList_some]
              congr 2
              exact H8.out.2.2.2.2.2.1
        · obtain rfl : i = n1 := by omega
          obtain ⟨hqh, hqs⟩ := HQ.out
          subst hqh hqs
          go_wp2_with fail
          obtain ⟨VH, VS, v1, v2, v3, v4, v5, v6⟩ := hin.out.ex
          have hbx := hin.out.chg.heap H3.out.1 (by simp)
          have hgq := H.out.1.keep (H3.out.2.tr hin.out.chg).kp
          have G1 := Lib.hid (And.intro v3 (And.intro v5 (And.intro v4 (And.intro v6 (And.intro hbx hgq)))))
          clear v1 v2 v3 v4 v5 v6 hbx hgq x0 x1
          refine wp_region_inv (by kernel_rfl) (by kernel_rfl) (fun l a' w' => ∃ (v7 v8 v42 v43 v44 v45 v46 v47 v48 v49 : Value) (b1 : Option Addr) (d1 : Nat) (b2 : Option Addr) (d2 : Nat) (L : List Cp) (e1 : Option Addr) (f1 : Nat) (e2 : Option Addr) (f2 : Nat) (M : List Cp) (B7 B8 : Nat),
            PairI wq hardP softP g l v43 v45 v47 v49 v7 v8 b1 d1 b2 d2 L e1 f1 e2 f2 M B7 B8 w' ∧ (l 0 = true → v42 = .slice ah qs ch) ∧ (l 2 = true → v44 = .agg #[.slice a1 qs c1, .slice a2 n2 c2]) ∧ (l 4 = true → v46 = .slice av qs cs) ∧ (l 6 = true → v48 = .agg #[.slice a1 qs c1, .slice a2 n2 c2]) ∧ a' = ⟨#[Value.agg #[Value.slice a1 qs c1, Value.slice a2 n2 c2], Value.pointer (some { block := w.heap.size, off := 0 }), Value.bool false, Value.slice ah qs ch, Value.slice av qs cs, Value.int IntKind.i64 qs, u6, v7, v8, undef, undef, Value.bool true, Value.bool false, Value.agg #[Value.slice a1 qs c1, Value.slice a2 n2 c2], Value.int IntKind.i64 m, Value.bool (decide (300 < m)), Value.bool (decide (300 < m)), Value.agg #[Value.slice a1 qs c1, Value.slice a2 n2 c2], Value.bool true, Value.bool false, Value.bool (decide (300 < m)), Value.int IntKind.i64 qs, Value.pointer (some { block := w.heap.size, off := 0 }), Value.slice a1 qs c1, Value.int IntKind.i64 qs, Value.bool false, u26, u27, u28, u29, u30, u31, u32, u33, u34, u35, u36, u37, u38, u39, u40, u41, v42, v43, v44, v45, v46, v47, v48, v49, undef, undef, undef, undef, undef, undef, undef, undef, undef, undef, undef, undef, undef, undef, undef, undef, undef, undef, undef, undef, undef, undef, undef, undef, undef, undef, undef, undef, undef, undef, undef, undef, undef, undef, undef, undef, undef, undef, undef, undef, undef, undef, undef, undef, undef, undef, undef, undef, undef, undef, undef, undef, undef, undef, undef, undef, undef, undef, undef, undef, undef, undef], []⟩) ?h0 ?hstep ?hdone
          case h0 => exact ⟨_, _, _, _, _, _, _, _, _, _, _, _, _, _, _, _, _, _, _, _, _, _, PairI.start wq hardP softP g, (fun h => by cases h), (fun h => by cases h), (fun h => by cases h), (fun h => by cases h), rfl⟩
          case hstep =>
            rintro l a' w' ⟨v7, v8, v42, v43, v44, v45, v46, v47, v48, v49, b1, d1, b2, d2, L, e1, f1, e2, f2, M, B7, B8, hI, q0, q2, q4, q6, rfl⟩ j hj hlj hdep
            have hjN : j < 12 := hj
            obtain ⟨y0, y1⟩ := cells2 (hI.chg.heap G1.out.2.2.2.2.1 (by simp))
            rcases (show j = 0 ∨ j = 1 ∨ j = 2 ∨ j = 3 ∨ j = 4 ∨ j = 5 ∨ j = 6 ∨ j = 7 ∨ j = 8 ∨ j = 9 ∨ j = 10 ∨ j = 11 by omega) with rfl | rfl | rfl | rfl | rfl | rfl | rfl | rfl | rfl | rfl | rfl | rfl
            · refine wpOp_atK rfl rfl fun Kk hK => ?_
              go_simp
              exact hK _ _ ⟨_, _, _, _, _, _, _, _, _, _, _, _, _, _, _, _, _, _, _, _, _, _, hI.quiet (by decide), (fun _ => rfl), (by simpa using q2), (by simpa using q4), (by simpa using q6), rfl⟩
            · have l0 := hdep _ rfl { on := 0, ground := .data } (by simp) (by kernel_rfl)
              obtain rfl := q0 l0
              refine wpOp_atK rfl rfl fun Kk hK => ?_
              go_simp
              refine (gram_call hard_ok H.out.2.2.1 G1.out.1 G1.out.2.1 hI.chg HR.out (by have := H.out.2.2.2; omega) HK.out hn1).mono ?_
              rintro e wz ⟨z1, k1, z2, k2, N, rfl, z3, z4, z5, z6⟩
              exact hK _ _ ⟨_, _, _, _, _, _, _, _, _, _, _, _, _, _, _, _, _, _, _, _, _, _, hI.step1 hlj z6 z3 z4 z5, (fun _ => rfl), (by simpa using q2), (by simpa using q4), (by simpa using q6), rfl⟩
            · refine wpOp_atK rfl rfl fun Kk hK => ?_
              go_simp
              exact hK _ _ ⟨_, _, _, _, _, _, _, _, _, _, _, _, _, _, _, _, _, _, _, _, _, _, hI.quiet (by decide), (by simpa using q0), (fun _ => rfl), (by simpa using q4), (by simpa using q6), rfl⟩
            · have l1 := hdep _ rfl { on := 1, ground := .data } (by simp) (by kernel_rfl)
              have l2 := hdep _ rfl { on := 2, ground := .data } (by simp) (by kernel_rfl)
              obtain rfl := q2 l2
              obtain ⟨rfl, hit⟩ := hI.x1 l1
              rw [hlj] at hit
              refine wpOp_atK rfl rfl fun Kk hK => ?_
              go_simp
              refine (named_call G1.out.2.2.2.2.2 hI.chg hn1 hit).mono ?_
              rintro e wz ⟨rfl, z1, z2⟩
              exact hK _ _ ⟨_, _, _, _, _, _, _, _, _, _, _, _, _, _, _, _, _, _, _, _, _, _, hI.step3 l1 hlj z2 z1, (by simpa using q0), (fun _ => rfl), (by simpa using q4), (by simpa using q6), rfl⟩
            · refine wpOp_atK rfl rfl fun Kk hK => ?_
              go_simp
              exact hK _ _ ⟨_, _, _, _, _, _, _, _, _, _, _, _, _, _, _, _, _, _, _, _, _, _, hI.quiet (by decide), (by simpa using q0), (by simpa using q2), (fun _ => rfl), (by simpa using q6), rfl⟩
            · have l4 := hdep _ rfl { on := 4, ground := .data } (by simp) (by kernel_rfl)
              obtain rfl := q4 l4
              refine wpOp_atK rfl rfl fun Kk hK => ?_
              go_simp
              refine (gram_call soft_ok H.out.2.2.1 G1.out.2.2.1 G1.out.2.2.2.1 hI.chg HR.out (by have := H.out.2.2.2; omega) HK.out hn1).mono ?_
              rintro e wz ⟨z1, k1, z2, k2, N, rfl, z3, z4, z5, z6⟩
              exact hK _ _ ⟨_, _, _, _, _, _, _, _, _, _, _, _, _, _, _, _, _, _, _, _, _, _, hI.step5 hlj z6 z3 z4 z5, (by simpa using q0), (by simpa using q2), (fun _ => rfl), (by simpa using q6), rfl⟩
            · refine wpOp_atK rfl rfl fun Kk hK => ?_
              go_simp
              exact hK _ _ ⟨_, _, _, _, _, _, _, _, _, _, _, _, _, _, _, _, _, _, _, _, _, _, hI.quiet (by decide), (by simpa using q0), (by simpa using q2), (by simpa using q4), (fun _ => rfl), rfl⟩
            · have l5 := hdep _ rfl { on := 5, ground := .data } (by simp) (by kernel_rfl)
              have l6 := hdep _ rfl { on := 6, ground := .data } (by simp) (by kernel_rfl)
              obtain rfl := q6 l6
              obtain ⟨rfl, hit⟩ := hI.y5 l5
              rw [hlj] at hit
              refine wpOp_atK rfl rfl fun Kk hK => ?_
              go_simp
              refine (named_call G1.out.2.2.2.2.2 hI.chg hn1 hit).mono ?_
              rintro e wz ⟨rfl, z1, z2⟩
              exact hK _ _ ⟨_, _, _, _, _, _, _, _, _, _, _, _, _, _, _, _, _, _, _, _, _, _, hI.step7 l5 hlj z2 z1, (by simpa using q0), (by simpa using q2), (by simpa using q4), (fun _ => rfl), rfl⟩
            · refine wpOp_atK rfl rfl fun Kk hK => ?_
              go_simp
              exact hK _ _ ⟨_, _, _, _, _, _, _, _, _, _, _, _, _, _, _, _, _, _, _, _, _, _, hI.step8 hlj, (by simpa using q0), (by simpa using q2), (by simpa using q4), (by simpa using q6), rfl⟩
            · refine wpOp_atK rfl rfl fun Kk hK => ?_
              go_simp
              exact hK _ _ ⟨_, _, _, _, _, _, _, _, _, _, _, _, _, _, _, _, _, _, _, _, _, _, hI.step9 hlj, (by simpa using q0), (by simpa using q2), (by simpa using q4), (by simpa using q6), rfl⟩
            · have l8 := hdep _ rfl { on := 8, ground := .data } (by simp) (by kernel_rfl)
              have l3 := hdep _ rfl { on := 3, ground := .data } (by simp) (by kernel_rfl)
              obtain ⟨rfl, l1⟩ := hI.x3 l3
              obtain ⟨rfl, hB, hbx⟩ := hI.z8 l8
              rw [hlj] at hbx
              have hf0 := free_of_cells hbx 0
              have hf1 := free_of_cells hbx 1
              obtain ⟨c0, c1⟩ := cells2 hbx
              refine wpOp_atK rfl rfl fun Kk hK => ?_
              simp only [gramV]
              go_simp
              exact hK _ _ ⟨_, _, _, _, _, _, _, _, _, _, _, _, _, _, _, _, _, _, _, _, _, _, hI.step10 l3 l8 hlj, (by simpa using q0), (by simpa using q2), (by simpa using q4), (by simpa using q6), rfl⟩
            · have l9 := hdep _ rfl { on := 9, ground := .data } (by simp) (by kernel_rfl)
              have l7 := hdep _ rfl { on := 7, ground := .data } (by simp) (by kernel_rfl)
              obtain ⟨rfl, l1⟩ := hI.y7 l7
              obtain ⟨rfl, hB, hbx⟩ := hI.z9 l9
              rw [hlj] at hbx
              have hf0 := free_of_cells hbx 0
              have hf1 := free_of_cells hbx 1
              obtain ⟨c0, c1⟩ := cells2 hbx
              refine wpOp_atK rfl rfl fun Kk hK => ?_
              simp only [gramV]
              go_simp
              exact hK _ _ ⟨_, _, _, _, _, _, _, _, _, _, _, _, _, _, _, _, _, _, _, _, _, _, hI.step11 l7 l9 hlj, (by simpa using q0), (by simpa using q2), (by simpa using q4), (by simpa using q6), rfl⟩
          case hdone =>
            rintro l a' w' ⟨v7, v8, v42, v43, v44, v45, v46, v47, v48, v49, b1, d1, b2, d2, L, e1, f1, e2, f2, M, B7, B8, hI, q0, q2, q4, q6, rfl⟩ hall
            obtain rfl := q0 (hall 0 (by decide))
            obtain rfl := q2 (hall 2 (by decide))
            obtain rfl := q4 (hall 4 (by decide))
            obtain rfl := q6 (hall 6 (by decide))
            obtain ⟨rfl, hX⟩ := hI.x1 (hall 1 (by decide))
            obtain ⟨rfl, -⟩ := hI.x3 (hall 3 (by decide))
            obtain ⟨rfl, hY⟩ := hI.y5 (hall 5 (by decide))
            obtain ⟨rfl, -⟩ := hI.y7 (hall 7 (by decide))
            obtain ⟨rfl, hB7, hb7⟩ := hI.z8 (hall 8 (by decide))
            obtain ⟨rfl, hB8, hb8⟩ := hI.z9 (hall 9 (by decide))
            rw [hall 3 (by decide)] at hX
            rw [hall 7 (by decide)] at hY
            rw [if_pos (hall 10 (by decide))] at hb7
            rw [if_pos (hall 11 (by decide))] at hb8
            have hwx := wrap_wf hard_ok.len hard_ok.kids hard_ok.wf HR.out (by have := H.out.2.2.2; omega) HK.out H.out.1.wf
            have hwy := wrap_wf soft_ok.len soft_ok.kids soft_ok.wf HR.out (by have := H.out.2.2.2; omega) HK.out H.out.1.wf
            obtain ⟨-, -, hsx⟩ := wrap_small hard_ok.len hard_ok.kids HR.out (by have := H.out.2.2.2; omega) HK.out
            obtain ⟨-, -, hsy⟩ := wrap_small soft_ok.len soft_ok.kids HR.out (by have := H.out.2.2.2; omega) HK.out
            have hrx := wrap_right front_hard HR.out hard_quiet hsx
            have hry := wrap_right front_soft HR.out soft_quiet hsy
            obtain ⟨R, hR⟩ : ∃ R, R = g.rules.all fun r => (aft g.nodes 15 r.body.toNat).isSome := ⟨_, rfl⟩
            rw [← hR] at hrx hry
            have hGX := hX.gram hwx.1
            have hGY := hY.gram hwy.1
            simp only [gramV]
            rw [← H.out.2.2.1] at hGX hGY hb7 hb8
            simp only [← H.out.2.2.1]
            have k1 : R = true → ∀ i : Nat, rankI (wrapG hardP g) i = 0 := fun h i => by
              unfold rankI
              split
              · rw [hard_rank (by rw [hrx]; exact h)]; rfl
              · rfl
            have k2 : R = true → ∀ i : Nat, i < qs → rankI (wrapG softP g) i = 1 := fun h i hi => by
              have hl := wrap_rules softP g
              have hh : rightB (wrapG softP g) = true := by rw [hry]; exact h
              have e := soft_rank hh (i := i) (by have := H.out.2.2.1; omega)
              unfold rankI
              rw [if_pos ⟨hh, by omega, by have := H.out.2.2.1; omega⟩]
              rw [show (i : Int).toNat = i from rfl, e]
              rfl
            have k3 : R = true → ∀ i : Nat, (h : i < (wrapG hardP g).nodes.length) → (wrapG hardP g).nodes[i].k = 5 → nodeI (wrapG hardP g) i = false := fun h i hi hk => by
              have e := hard_call (by rw [hrx]; exact h) hi hk
              simp [nodeI, e]
            have k4 : R = true → (rulesN (wrapG softP g)).length = qs := fun h => by
              rw [soft_rules (by rw [hry]; exact h)]
              exact H.out.2.2.1.symm
            obtain ⟨gx, hgx⟩ : ∃ gx, gx = wrapG hardP g := ⟨_, rfl⟩
            obtain ⟨gy, hgy⟩ : ∃ gy, gy = wrapG softP g := ⟨_, rfl⟩
            rw [← hgx] at hwx hrx hGX hb7 k1 k3
            rw [← hgy] at hwy hry hGY hb8 k2 k4
            simp only [← hgx, ← hgy]
            obtain ⟨nx, hnx⟩ : ∃ nx, nx = gx.nodes.length := ⟨_, rfl⟩
            obtain ⟨ny, hny⟩ : ∃ ny, ny = gy.nodes.length := ⟨_, rfl⟩
            rw [← hnx] at hGX hb7
            rw [← hny] at hGY hb8
            simp only [← hnx, ← hny]
            have hcw := (H3.out.2.tr hin.out.chg).tr hI.chg
            have hbg := hI.chg.heap G1.out.2.2.2.2.1 (by simp)
            have hx3 : nx ≤ 9223372036854775807 := hGX.small.2
            have GX := Lib.hid (And.intro hGX (And.intro hwx.2 (And.intro hrx (And.intro k1 (And.intro k3 (And.intro hb7 hnx))))))
            have GY := Lib.hid (And.intro hGY (And.intro hwy.2 (And.intro hry (And.intro k2 (And.intro k4 hb8)))))
            have GW := Lib.hid (And.intro hcw hbg)
            obtain ⟨ws, rfl⟩ : ∃ ws, ws = w' := ⟨_, rfl⟩
            clear hwx hwy hsx hsy hrx hry hR hGX hGY k1 k2 k3 k4 hgx hgy hnx hny hb7 hb8 hcw hbg hX hY hI q0 q2 q4 q6 hall hB7 hB8 G1 hin
            obtain ⟨x0, x1⟩ := cells2 GW.out.2
            obtain ⟨y0, y1⟩ := cells2 GX.out.2.2.2.2.2.1
            obtain ⟨z0, z1⟩ := cells2 GY.out.2.2.2.2.2
            have hp := Right_any ws _ _ _ _ _ _ gx GX.out.1
            rw [GX.out.2.2.1] at hp
            go_wp2_with fail
            refine hp.mono ?_
            clear hp
            rintro e w4 ⟨rfl, hc4⟩
            cases R with
            | false =>
              have H4 := Lib.hid (And.intro (GW.out.1.tr hc4) (And.intro (hc4.heap GX.out.2.2.2.2.2.1 (by simp)) (And.intro (hc4.heap GY.out.2.2.2.2.2 (by simp)) hc4)))
              clear hc4 x0 x1 y0 y1 z0 z1
              obtain ⟨y0, y1⟩ := cells2 H4.out.2.1
              obtain ⟨z0, z1⟩ := cells2 H4.out.2.2.1
              have cA := calls_rg (w := w4) (fun w1 h1 => Right_any w1 _ _ _ _ _ _ gx (GX.out.1.keep (H4.out.2.2.2.tr h1).kp))
              have cB := calls_rg (w := w4) (fun w1 h1 => Right_any w1 _ _ _ _ _ _ gy (GY.out.1.keep (H4.out.2.2.2.tr h1).kp))
              have cC := calls_rg (w := w4) (fun w1 h1 => nullRules_wrong w1 _ _ _ _ _ _ gx (GX.out.1.keep (H4.out.2.2.2.tr h1).kp) GX.out.2.1 GX.out.2.2.1)
              rw [GX.out.2.2.1] at cA
              rw [GY.out.2.2.1] at cB
              have ky0 := cell_rg y0
              have ky1 := cell_rg y1
              have kz0 := cell_rg z0
              have kz1 := cell_rg z1
              clear y0 y1 z0 z1
              go_wp2_with fail
              refine wp_region_quiet_below (by kernel_rfl) (by kernel_rfl) ?_
              repeat (go_big_quiet_step (first | (with_reducible exact cA _ _) | (with_reducible exact cB _ _) | (with_reducible exact cC _ _)))
              refine wpQuiet_nil ?_
              intro w5 hw5
              have hc5 := chg_of_rg hw5
              clear hw5 cA cB cC ky0 ky1 kz0 kz1
              go_wp2_with fail
              go_ret
              exact ⟨rfl, H4.out.1.tr hc5⟩
            | true =>
              have H4 := Lib.hid (And.intro (GW.out.1.tr hc4) (And.intro (hc4.heap GX.out.2.2.2.2.2.1 (by simp)) (And.intro (hc4.heap GY.out.2.2.2.2.2 (by simp)) (And.intro hc4 (hc4.heap GW.out.2 (by simp))))))
              clear hc4 x0 x1 y0 y1 z0 z1
              obtain ⟨z0, z1⟩ := cells2 H4.out.2.2.1
              have hp := Right_any w4 _ _ _ _ _ _ gy (GY.out.1.keep H4.out.2.2.2.1.kp)
              rw [GY.out.2.2.1] at hp
              go_wp2_with fail
              refine hp.mono ?_
              clear hp
              rintro e w5 ⟨rfl, hc5⟩
              have H5 := Lib.hid (And.intro (H4.out.1.tr hc5) (And.intro (hc5.heap H4.out.2.1 (by simp)) (And.intro (hc5.heap H4.out.2.2.1 (by simp)) (And.intro (H4.out.2.2.2.1.tr hc5) (hc5.heap H4.out.2.2.2.2 (by simp))))))
              clear hc5 z0 z1
              go_wp2_with fail
              go_loopg [9] qs (fun d iv wr => ∃ i : Nat, d = qs - i ∧ i ≤ qs ∧ iv = .int .i64 i ∧ Hid (Chg [] w5 wr))
              case atStart => exact ⟨0, rfl, Nat.zero_le _, rfl, Lib.hid (Chg.refl _ _)⟩
              case round =>
                obtain ⟨i, rfl, hi, rfl, hin⟩ := hrel
                obtain ⟨wl, rfl⟩ : ∃ wz, wz = wr := ⟨_, rfl⟩
                obtain ⟨x0, x1⟩ := cells2 (hin.out.heap H5.out.2.2.2.2 (by simp))
                obtain ⟨y0, y1⟩ := cells2 (hin.out.heap H5.out.2.1 (by simp))
                by_cases hlt : i < qs
                · have hp := nullRank_any wl _ _ _ _ _ _ gx (GX.out.1.keep (H5.out.2.2.2.1.tr hin.out).kp) GX.out.2.1 i
                  rw [GX.out.2.2.2.1 (by trivial) i] at hp
                  go_wp2_with fail
                  refine hp.mono ?_
                  clear hp
                  rintro e wm ⟨rfl, hcm⟩
                  obtain ⟨z0, z1⟩ := cells2 ((hin.out.tr hcm).heap H5.out.2.2.1 (by simp))
                  have hp := nullRank_any wm _ _ _ _ _ _ gy (GY.out.1.keep (H5.out.2.2.2.1.tr (hin.out.tr hcm)).kp) GY.out.2.1 i
                  rw [GY.out.2.2.2.1 (by trivial) i hlt] at hp
                  have HM := Lib.hid hcm
                  clear hcm x0 x1 y0 y1
                  go_wp2_with fail
                  refine hp.mono ?_
                  clear hp
                  rintro e wn ⟨rfl, hcn⟩
                  have HN := Lib.hid hcn
                  clear hcn z0 z1
                  go_wp2_with fail
                  go_roundg (qs - (i + 1))
                  case measure => omega
                  case rel => exact ⟨i + 1, rfl, by omega, by go_num, Lib.hid ((hin.out.tr HM.out).tr HN.out)⟩
                · obtain rfl : i = qs := by omega
                  go_wp2_with fail
                  go_loopg [10] nx (fun d iv wr => ∃ j : Nat, d = nx - j ∧ j ≤ nx ∧ iv = .int .i64 j ∧ Hid (Chg [] w5 wr))
                  case atStart => exact ⟨0, rfl, Nat.zero_le _, rfl, hin⟩
                  case round =>
                    obtain ⟨j, rfl, hj, rfl, hin2⟩ := hrel
                    obtain ⟨wm, rfl⟩ : ∃ wz, wz = wr := ⟨_, rfl⟩
                    clear x0 x1 y0 y1
                    obtain ⟨x0, x1⟩ := cells2 (hin2.out.heap H5.out.2.2.2.2 (by simp))
                    obtain ⟨y0, y1⟩ := cells2 (hin2.out.heap H5.out.2.1 (by simp))
                    by_cases hlt2 : j < nx
                    · have hjn : j < gx.nodes.length := by have := GX.out.2.2.2.2.2.2; omega
                      obtain ⟨bn, on, ak, nk, ck, rfl, hx⟩ := (GX.out.1.keep (H5.out.2.2.2.1.tr hin2.out).kp).nodes j hjn
                      obtain ⟨kk, hkk⟩ : ∃ kk, kk = gx.nodes[j].k := ⟨_, rfl⟩
                      have hxk := hx.k
                      rw [← hkk] at hxk
                      by_cases hk5 : kk = 5
                      · subst hk5
                        have hp := nullNode_any wm _ _ _ _ _ _ gx (GX.out.1.keep (H5.out.2.2.2.1.tr hin2.out).kp) GX.out.2.1 j
                        rw [GX.out.2.2.2.2.1 (by trivial) j hjn hkk.symm] at hp
                        clear hjn hx hkk
                        go_wp2_with fail
                        refine hp.mono ?_
                        clear hp
                        rintro e wn ⟨rfl, hcn⟩
                        have HN := Lib.hid hcn
                        clear hcn x0 x1 y0 y1 hxk
                        go_wp2_with fail
                        go_roundg (nx - (j + 1))
                        case measure => omega
                        case rel => exact ⟨j + 1, rfl, by omega, by go_num, Lib.hid (hin2.out.tr HN.out)⟩
                      · have hk6 : (kk == 5) = false := by simpa using hk5
                        clear hjn hx hkk
                        go_wp2_with fail
                        go_roundg (nx - (j + 1))
                        case measure => omega
                        case rel => exact ⟨j + 1, rfl, by omega, by go_num, hin2⟩
                    · obtain rfl : j = nx := by omega
                      go_wp2_with fail
                      clear x0 x1 y0 y1
                      refine wp_region_inv (by kernel_rfl) (by kernel_rfl) (fun l a' w' => ∃ u105 u106 u107 u108 u109 u110 u111 u2, Chg [] wm w' ∧ (l 0 = true → u105 = .agg #[.slice e1 i f1, .slice e2 ny f2]) ∧ (l 1 = true → ∃ ra ka, u106 = .slice ra i ka ∧ True) ∧ (l 2 = true → u107 = .int .i64 i) ∧ (l 3 = true → u108 = .pointer (some ⟨w.heap.size, 0, none⟩)) ∧ (l 4 = true → u109 = .slice a1 i c1) ∧ (l 5 = true → u110 = .int .i64 i) ∧ (l 6 = true → u111 = .bool true) ∧ (l 7 = true → u2 = .bool true) ∧ a' = { tmps := #[.agg #[.slice a1 i c1, .slice a2 n2 c2], .pointer (some ⟨w.heap.size, 0, none⟩), u2, .slice ah i ch, .slice av i cs, .int .i64 i, u6, .pointer (some ⟨B7, 0, none⟩), .pointer (some ⟨B8, 0, none⟩), .int .i64 i, .int .i64 j, .bool true, .bool false, .agg #[.slice a1 i c1, .slice a2 n2 c2], .int .i64 m, .bool (decide (300 < m)), .bool (decide (300 < m)), .agg #[.slice a1 i c1, .slice a2 n2 c2], .bool true, .bool false, .bool (decide (300 < m)), .int .i64 i, .pointer (some ⟨w.heap.size, 0, none⟩), .slice a1 i c1, .int .i64 i, .bool false, u26, u27, u28, u29, u30, u31, u32, u33, u34, u35, u36, u37, u38, u39, u40, u41, .slice ah i ch, .agg #[.slice b1 i d1, .slice b2 j d2], .agg #[.slice a1 i c1, .slice a2 n2 c2], .agg #[.slice b1 i d1, .slice b2 j d2], .slice av i cs, .agg #[.slice e1 i f1, .slice e2 ny f2], .agg #[.slice a1 i c1, .slice a2 n2 c2], .agg #[.slice e1 i f1, .slice e2 ny f2], .agg #[.slice b1 i d1, .slice b2 j d2], .bool true, .bool false, .bool false, .agg #[.slice e1 i f1, .slice e2 ny f2], .bool true, .bool false, .bool false, undef, undef, undef, undef, undef, undef, undef, undef, undef, undef, undef, .int .i64 i, .pointer (some ⟨w.heap.size, 0, none⟩), .slice a1 i c1, .int .i64 i, .bool false, u74, u75, u76, u77, u78, u79, u80, u81, u82, u83, u84, u85, .int .i64 j, .pointer (some ⟨B7, 1, none⟩), .slice b2 j d2, .int .i64 j, .bool false, u91, u92, u93, u94, u95, u96, u97, u98, u99, u100, u101, u102, u103, u104, u105, u106, u107, u108, u109, u110, u111], defers := [] }) ?h0 ?hstep ?hdone
                      case h0 => exact ⟨_, _, _, _, _, _, _, _, (Chg.refl _ _).drew, (fun h => by cases h), (fun h => by cases h), (fun h => by cases h), (fun h => by cases h), (fun h => by cases h), (fun h => by cases h), (fun h => by cases h), (fun h => by cases h), rfl⟩
                      case hstep =>
                        rintro l a' w' ⟨u105, u106, u107, u108, u109, u110, u111, u2, hC, q0, q1, q2, q3, q4, q5, q6, q7, rfl⟩ j hj hlj hdep
                        have hjN : j < 8 := hj
                        obtain ⟨x0, x1⟩ := cells2 (hC.heap (hin2.out.heap H5.out.2.2.2.2 (by simp)) (by simp))
                        obtain ⟨z0, z1⟩ := cells2 (hC.heap (hin2.out.heap H5.out.2.2.1 (by simp)) (by simp))
                        rcases (show j = 0 ∨ j = 1 ∨ j = 2 ∨ j = 3 ∨ j = 4 ∨ j = 5 ∨ j = 6 ∨ j = 7 by omega) with rfl | rfl | rfl | rfl | rfl | rfl | rfl | rfl
                        · refine wpOp_atK rfl rfl fun Kk hK => ?_
                          go_simp
                          exact hK _ _ ⟨_, _, _, _, _, _, _, _, hC, (fun _ => rfl), (by simpa using q1), (by simpa using q2), (by simpa using q3), (by simpa using q4), (by simpa using q5), (by simpa using q6), (by simpa using q7), rfl⟩
                        · have l0 := hdep _ rfl { on := 0, ground := .data } (by simp) (by kernel_rfl)
                          obtain rfl := q0 l0
                          refine wpOp_atK rfl rfl fun Kk hK => ?_
                          go_simp
                          refine (nullRules_len (GY.out.1.keep ((H5.out.2.2.2.1.tr hin2.out).tr hC).kp) GY.out.2.1 (GY.out.2.2.2.2.1 (by trivial))).mono ?_
                          rintro e wz ⟨ra, ka, rfl, hz⟩
                          exact hK _ _ ⟨_, _, _, _, _, _, _, _, hC.tr hz, (fun _ => rfl), (fun _ => ⟨ra, ka, rfl, trivial⟩), (by simpa using q2), (by simpa using q3), (by simpa using q4), (by simpa using q5), (by simpa using q6), (by simpa using q7), rfl⟩
                        · have l1 := hdep _ rfl { on := 1, ground := .data } (by simp) (by kernel_rfl)
                          obtain ⟨ra, ka, rfl, p1⟩ := q1 l1
                          refine wpOp_atK rfl rfl fun Kk hK => ?_
                          go_simp
                          exact hK _ _ ⟨_, _, _, _, _, _, _, _, hC, (by simpa using q0), (fun _ => ⟨ra, ka, rfl, p1⟩), (fun _ => rfl), (by simpa using q3), (by simpa using q4), (by simpa using q5), (by simpa using q6), (by simpa using q7), rfl⟩
                        · refine wpOp_atK rfl rfl fun Kk hK => ?_
                          go_simp
                          exact hK _ _ ⟨_, _, _, _, _, _, _, _, hC, (by simpa using q0), (by simpa using q1), (by simpa using q2), (fun _ => rfl), (by simpa using q4), (by simpa using q5), (by simpa using q6), (by simpa using q7), rfl⟩
                        · have l3 := hdep _ rfl { on := 3, ground := .data } (by simp) (by kernel_rfl)
                          obtain rfl := q3 l3
                          refine wpOp_atK rfl rfl fun Kk hK => ?_
                          go_simp
                          exact hK _ _ ⟨_, _, _, _, _, _, _, _, hC, (by simpa using q0), (by simpa using q1), (by simpa using q2), (fun _ => rfl), (fun _ => rfl), (by simpa using q5), (by simpa using q6), (by simpa using q7), rfl⟩
                        · have l4 := hdep _ rfl { on := 4, ground := .data } (by simp) (by kernel_rfl)
                          obtain rfl := q4 l4
                          refine wpOp_atK rfl rfl fun Kk hK => ?_
                          go_simp
                          exact hK _ _ ⟨_, _, _, _, _, _, _, _, hC, (by simpa using q0), (by simpa using q1), (by simpa using q2), (by simpa using q3), (fun _ => rfl), (fun _ => rfl), (by simpa using q6), (by simpa using q7), rfl⟩
                        · have l2 := hdep _ rfl { on := 2, ground := .data } (by simp) (by kernel_rfl)
                          obtain rfl := q2 l2
                          have l5 := hdep _ rfl { on := 5, ground := .data } (by simp) (by kernel_rfl)
                          obtain rfl := q5 l5
                          refine wpOp_atK rfl rfl fun Kk hK => ?_
                          go_simp
                          exact hK _ _ ⟨_, _, _, _, _, _, _, _, hC, (by simpa using q0), (by simpa using q1), (fun _ => rfl), (by simpa using q3), (by simpa using q4), (fun _ => rfl), (fun _ => rfl), (by simpa using q7), rfl⟩
                        · have l6 := hdep _ rfl { on := 6, ground := .data } (by simp) (by kernel_rfl)
                          obtain rfl := q6 l6
                          refine wpOp_atK rfl rfl fun Kk hK => ?_
                          go_simp
                          exact hK _ _ ⟨_, _, _, _, _, _, _, _, hC, (by simpa using q0), (by simpa using q1), (by simpa using q2), (by simpa using q3), (by simpa using q4), (by simpa using q5), (fun _ => rfl), (fun _ => rfl), rfl⟩
                      case hdone =>
                        rintro l a' w' ⟨u105, u106, u107, u108, u109, u110, u111, u2, hC, q0, q1, q2, q3, q4, q5, q6, q7, rfl⟩ hall
                        obtain rfl := q7 (hall 7 (by decide))
                        have HE := Lib.hid hC
                        clear hC q0 q1 q2 q3 q4 q5 q6 q7 hall
                        go_wp2_with fail
                        go_ret
                        exact ⟨rfl, (H5.out.1.tr hin2.out).tr HE.out⟩
end Go.Proofs.Ytibgfgfmljhimaa

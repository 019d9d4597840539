/-
  LeftAhead: what the law computes.
  Conditions: the grammar reads as data, within the reach.
-/
import Derived.Test.YtibgfgfmljhimaaNH2
import Derived.Test.YtibgfgfmljhimaaLB
import Derived.Test.YtibgfgfmljhimaaLf4
import Derived.Test.YtibgfgfmljhimaaLfR
import Derived.Test.YtibgfgfmljhimaaGAny
set_option linter.unusedVariables false
set_option linter.unusedSimpArgs false
set_option linter.unnecessarySimpa false
namespace Go.Proofs.Ytibgfgfmljhimaa
open Go.RowKit Go.MapKept Go.Shelf

theorem softQ_ok : FrontOk softQ := ⟨by decide, by decide +kernel, by unfold I64; decide +kernel⟩
theorem ofL_softQ (b : List Nd) : ofL 6 [ofL 12 [[bareN 1]], b] = softQ ++ movedL b 3 := by simp [ofL, gramO, gramN, softQ, movedL, bareN, Nd.shift]
theorem named_call {w0 W : World} {P : List Nd} {g : Gr} {a1 : Option Addr} {n1 c1 : Nat} {a2 : Option Addr} {n2 c2 : Nat} {b1 : Option Addr} {d1 : Nat} {b2 : Option Addr} {d2 : Nat} {L : List Cp} (hg : GramAt w0 a1 n1 c1 a2 n2 c2 g) (hc : Chg [] w0 W) (hs : n1 ≤ 300)
    (hi : Item w0.heap.size W P g false b1 d1 b2 d2 L) :
    Calls Try.prog 65 #[gramV P g b1 d1 b2 d2, .agg #[.slice a1 n1 c1, .slice a2 n2 c2]] W fun e w' =>
      e = .returned (gramV P g b1 d1 b2 d2) ∧ FreshRules w0.heap.size w' b1 d1 (wrapG P g).rules ∧ Chg (Value.slice b1 g.rules.length d1).ownBlock.toList W w' := by
  have h := named12_any W w0.heap.size b1 d1 b2 (wrapG P g).nodes.length d2 (gramL (wrapL P g)).rules a1 n1 c1 a2 n2 c2 g.rules hi.rls (hg.rules.keep hc.kp) hg.e1 (gramL_rules P g) hs (fun i b o ha hi => by
    obtain ⟨b', o', h1, h2, h3⟩ := hg.rules i hi
    rw [ha] at h1
    cases h1
    exact World.block_lt_of_cell? _ _ h2)
  rw [gramL_rules] at h
  have e := congrArg Gr.rules (wrapG_of P g)
  rw [show wrapR g.rules (List.map (·.body) (gramL (wrapL P g)).rules) = (wrapG P g).rules from e] at h
  exact h
set_option maxRecDepth 100000 in
set_option maxHeartbeats 16000000 in
theorem leftAheadLaw_any (w : World) (a1 : Option Addr) (n1 c1 : Nat) (a2 : Option Addr) (n2 c2 : Nat) (g : Gr) (hg : GramAt w a1 n1 c1 a2 n2 c2 g) (hre : Reach g) :
    Calls Try.prog 13 #[.agg #[.slice a1 n1 c1, .slice a2 n2 c2]] w fun e w' => e = .returned (.bool true) ∧ Chg [] w w' := by
  obtain ⟨i0, hi0, hz0, hz1, hz2⟩ := info_parts Try.infoBodies
  have H := Lib.hid (And.intro hg (And.intro hre (And.intro hg.e1 hg.e2)))
  clear hg hre
  go_enter Try.func13, Try.ntmps13
  go_wp2_with fail
  refine (awake12_any _).mono ?_
  rintro e w1 ⟨rfl, hc1⟩
  have hb1 := hc1.heap (heap_alloc_same _ _) (by simp)
  have H1 := Lib.hid (And.intro hb1 (((Chg.refl [] w).alloc _).tr0 hc1))
  clear hc1 hb1
  obtain ⟨x0, x1⟩ := cells2 H1.out.1
  go_wp2_with fail
  refine (size12_any _ a1 n1 c1 a2 n2 c2 g (H.out.1.keep H1.out.2.kp) H.out.2.1).mono ?_
  rintro e w2 ⟨m, rfl, hm1, hm2, hc2⟩
  have H2 := Lib.hid (And.intro (hc2.heap H1.out.1 (by simp)) (H1.out.2.tr hc2))
  clear hc2 x0 x1
  by_cases hm : (300 : Int) < m
  · go_wp2_with fail
    go_ret
    exact ⟨rfl, H2.out.2⟩
  · have hsm : smallG g := by
      by_cases hq : smallG g
      · exact hq
      · exact absurd (hm2 hq) hm
    clear hm1 hm2
    obtain ⟨z1, z2, z3⟩ := kids_few hsm
    have hn1 : n1 ≤ 300 := by have := H.out.2.2.1; omega
    have hn2 : n2 ≤ 300 := by have := H.out.2.2.2; omega
    have HK := Lib.hid z3
    clear hsm z1 z2 z3
    obtain ⟨x0, x1⟩ := cells2 H2.out.1
    go_wp2_with fail
    refine (Right_any _ a1 n1 c1 a2 n2 c2 g (H.out.1.keep H2.out.2.kp)).mono ?_
    rintro e w3 ⟨rfl, hc3⟩
    have H3 := Lib.hid (And.intro (hc3.heap H2.out.1 (by simp)) (H2.out.2.tr hc3))
    clear hc3 x0 x1
    obtain ⟨x0, x1⟩ := cells2 H3.out.1
    cases hr : rightB g with
    | false =>
      go_wp2_with fail
      go_ret
      exact ⟨rfl, H3.out.2⟩
    | true =>
      have HR := Lib.hid hr
      clear hr
      go_wp2_with fail
      clear x0 x1
      go_loopg [5, 3, 4] n1 (fun d iv hv sv wr => ∃ (i qh qs ch cs : Nat) (ah av : Option Addr), d = n1 - i ∧ i ≤ n1 ∧ iv = .int .i64 i ∧ hv = .slice ah qh ch ∧ sv = .slice av qs cs ∧ qh = i ∧ qs = i ∧ Hid (Wraps softQ w3 g i ah ch av cs wr))
      case atStart => exact ⟨0, 0, 0, 0, 0, none, none, rfl, Nat.zero_le _, rfl, rfl, rfl, rfl, rfl, Lib.hid (Wraps.start softQ w3 g)⟩
      case round =>
        obtain ⟨i, qh, qs, ch, cs, ah, av, rfl, hi, rfl, rfl, rfl, hqh, hqs, hin⟩ := hrel
        obtain ⟨wq, rfl⟩ : ∃ wz, wz = wr := ⟨_, rfl⟩
        have HQ := Lib.hid (And.intro hqh hqs)
        clear hqh hqs
        obtain ⟨x0, x1⟩ := cells2 (hin.out.chg.heap H3.out.1 (by simp))
        by_cases hlt : i < n1
        · have hir : i < g.rules.length := by have := H.out.2.2.1; omega
          obtain ⟨bd, hbd⟩ : ∃ bd, bd = bodyOf g g.rules[i].body := ⟨_, rfl⟩
          have hbody := body12_any wq a1 n1 c1 a2 n2 c2 g (H.out.1.keep (H3.out.2.tr hin.out.chg).kp) HR.out i hir hn2 HK.out
          rw [← hbd] at hbody
          have htight : Tight bd := by rw [hbd]; exact body_tight HR.out (by have := H.out.2.2.2; omega) HK.out hir
          have hbd2 : (wrapL hardP g)[i]? = some (hardP ++ movedL bd 2) ∧ (wrapL softQ g)[i]? = some (softQ ++ movedL bd 3) := by
            constructor
            · rw [List.getElem?_eq_getElem (by rw [wrapL_len]; exact hir), wrapL_at _ _ hir, ← hbd]; rfl
            · rw [List.getElem?_eq_getElem (by rw [wrapL_len]; exact hir), wrapL_at _ _ hir, ← hbd]; rfl
          have HB := Lib.hid (And.intro hbody (And.intro htight hbd2))
          clear hbody htight hbd2 hbd hir
          go_wp2_with fail
          refine HB.out.1.mono ?_
          rintro e w4 ⟨ba, bc, Lb, rfl, hLb, hOb, hc4⟩
          have H4 := Lib.hid (And.intro hLb (And.intro hOb hc4))
          clear hLb hOb hc4 x0 x1
          go_wp2_with fail
          refine (Leaf_any _ _).mono ?_
          rintro e w5 ⟨la, lc, rfl, nl, -, -, hc5⟩
          have nb5 : Nodes w5 ba bd := by have := (H4.out.2.1.chg0 hc5).read.1; rw [H4.out.1] at this; exact this
          have H5 := Lib.hid (And.intro nl (And.intro nb5 hc5))
          clear nl nb5 hc5
          go_wp2_with fail
          refine (Chain_any _ la lc _ ba bc bd H5.out.1 (small_of (by decide +kernel)) H5.out.2.1 HB.out.2.1.small (by have := HB.out.2.1.len; simp; omega)).mono ?_
          rw [ofL_hard]
          rintro e w6 ⟨ca, cc, Lc, rfl, hLc, hOc, hc6⟩
          obtain ⟨hl, hhl⟩ : ∃ hl, hl = (hardP ++ movedL bd 2).length := ⟨_, rfl⟩
          rw [← hhl]
          have hLcl : Lc.length = hl := by rw [hhl, ← hLc]; simp
          have hc46 : Chg [] wq w6 := (H4.out.2.2.tr H5.out.2.2).tr hc6
          obtain ⟨VH, VS, v1, v2, v3, v4, v5, v6⟩ := hin.out.ex
          have hcA := (Chg.refl [] w6).alloc (.cells #[.slice ca hl cc] 23)
          have hrow := ((v5.chg0 hc46).chg0 hcA).row
          rw [v1] at hrow
          have hnew := cells_at (w := w6.alloc (.cells #[.slice ca hl cc] 23)) (heap_alloc_same _ _)
          have h1' : ∀ u ∈ [Value.slice ca hl cc], u.oneCell' = true := by simp [Value.oneCell']
          have h2' : i + 1 ≤ maxLen ∧ (i + 1) * 24 ≤ 140737488355328 := by simp only [maxLen]; omega
          have hb' : w3.heap.size ≤ (w6.alloc (.cells #[.slice ca hl cc] 23)).heap.size := ((hin.out.chg.tr hc46).tr hcA).size
          have hcell : Vs.cell (ca, cc, Lc) = .slice ca hl cc := by simp [Vs.cell, hLcl]
          have H6 := Lib.hid (And.intro hrow (And.intro hnew (And.intro h1' (And.intro h2' (And.intro hb' (And.intro hLc (And.intro (hOc.below (H4.out.2.2.tr H5.out.2.2).size) (And.intro (hc46.tr hcA) hcell))))))))
          have HVS := Lib.hid (And.intro v1 (And.intro v2 (And.intro v3 (And.intro v4 (And.intro v5 v6)))))
          have HL := Lib.hid (And.intro hhl hc6)
          obtain ⟨hqh, hqs⟩ := HQ.out
          subst hqh
          clear hrow hnew h1' h2' hb' hLc hOc hc46 hcA hcell v1 v2 v3 v4 v5 v6 hhl hLcl hc6 hqs
          go_wp2_with (at_builtin; refine wpList_append_own_at _ rfl _ _ 61 rfl w3.heap.size 23 i0 _ 1 24 Try.underlying61 hi0 hz0 hz1 hz2 rfl (by decide) (.slice ah qh ch) qh (VH.map Vs.cell) rfl H6.out.1 ⟨w6.heap.size, 0, none⟩ 1 1 [.slice ca hl cc] rfl rfl H6.out.2.1 H6.out.2.2.1 H6.out.2.2.2.1.1 H6.out.2.2.2.1.2 H6.out.2.2.2.2.1 ?_; intro v' w7 hr7 hg7 hn7 hb7; obtain ⟨a7, c7, rfl⟩ := ownsRow_slice hr7; have HW := Lib.hid (And.intro hr7 (And.intro hg7 hb7)); clear hr7 hg7 hn7 hb7)
          obtain ⟨v1, v2, v3, v4, v5, v6⟩ := HVS.out
          have hcw := H6.out.2.2.2.2.2.2.2.1
          have hcA6 := (Chg.refl [] w6).alloc (.cells #[.slice ca hl cc] 23)
          have hqs : qs = qh := HQ.out.2
          obtain ⟨u1, u2, u3, u4, u5⟩ := grow_two (p := (ca, cc, Lc)) (v5.chg0 hcw) (v6.chg0 hcw) v1 v2 hin.out.ne ((H6.out.2.2.2.2.2.2.1.chg0 hcA6).below hin.out.chg.size) (by rw [H6.out.2.2.2.2.2.2.2.2]; exact HW.out.1) HW.out.2.1 HW.out.2.2 (hin.out.chg.tr hcw)
          have hOb6 : OwnN w3.heap.size (w6.alloc (.cells #[.slice ca hl cc] 23)) ba bc Lb := ((H4.out.2.1.chg0 (H5.out.2.2.tr (HL.out.2.tr hcA6))).below hin.out.chg.size)
          have hOb7 := u5 _ _ _ hOb6
          have nb7 : Nodes w7 ba bd := by have := hOb7.read.1; rw [H4.out.1] at this; exact this
          have H7 := Lib.hid (And.intro u1 (And.intro u2 (And.intro u3 (And.intro u4 nb7))))
          clear v1 v2 v3 v4 v5 v6 hcw hcA6 u1 u2 u3 u4 u5 hOb6 hOb7 nb7
          refine (Leaf_any _ _).mono ?_
          rintro e wa ⟨la2, lc2, rfl, nl2, -, -, hca⟩
          have HA := Lib.hid (And.intro nl2 hca)
          clear nl2 hca
          go_wp2_with fail
          refine (In_any _ 12 la2 _ _ HA.out.1 (small_of (by decide +kernel))).mono ?_
          rintro e wb ⟨ia, ic, Li, rfl, hLi, hOi, hcb⟩
          have nI : Nodes wb ia (ofL 12 [[bareN 1]]) := by have := hOi.read.1; rw [hLi] at this; exact this
          have HB2 := Lib.hid (And.intro nI (And.intro (HA.out.2.tr hcb) (H7.out.2.2.2.2.keep (HA.out.2.tr hcb).kp)))
          clear nI hLi hOi hcb
          go_wp2_with fail
          refine (Chain_any _ ia ic _ ba bc bd HB2.out.1 (small_of (by decide +kernel)) HB2.out.2.2 HB.out.2.1.small (by have := HB.out.2.1.len; simp [ofL, gramN, movedL]; omega)).mono ?_
          rw [ofL_softQ]
          rintro e w8 ⟨sa, sc, Ls, rfl, hLs, hOs, hc8⟩
          replace hOs := hOs.below HB2.out.2.1.size
          replace hc8 := HB2.out.2.1.tr hc8
          obtain ⟨sl, hsl⟩ : ∃ sl, sl = (softQ ++ movedL bd 3).length := ⟨_, rfl⟩
          rw [← hsl]
          have hLsl : Ls.length = sl := by rw [hsl, ← hLs]; simp
          have hcA8 := hc8.alloc (.cells #[.slice sa sl sc] 23)
          have hcell8 : Vs.cell (sa, sc, Ls) = .slice sa sl sc := by simp [Vs.cell, hLsl]
          have hrow8 := (H7.out.2.1.chg0 hcA8).row
          rw [HVS.out.2.1] at hrow8
          have hnew8 := cells_at (w := w8.alloc (.cells #[.slice sa sl sc] 23)) (heap_alloc_same _ _)
          have h18 : ∀ u ∈ [Value.slice sa sl sc], u.oneCell' = true := by simp [Value.oneCell']
          have h28 : qh + 1 ≤ maxLen ∧ (qh + 1) * 24 ≤ 140737488355328 := by simp only [maxLen]; omega
          have hb8 : w3.heap.size ≤ (w8.alloc (.cells #[.slice sa sl sc] 23)).heap.size := (H7.out.2.2.2.1.tr hcA8).size
          have H8 := Lib.hid (And.intro hrow8 (And.intro hnew8 (And.intro h18 (And.intro h28 (And.intro hb8 (And.intro hLs (And.intro ((hOs.chg0 ((Chg.refl [] w8).alloc (.cells #[.slice sa sl sc] 23))).below H7.out.2.2.2.1.size) (And.intro hcA8 (And.intro hcell8 hsl)))))))))
          subst hqs
          clear hrow8 hnew8 h18 h28 hb8 hLs hOs hc8 hcA8 hcell8 hLsl hsl
          go_wp2_with (at_builtin; refine wpList_append_own_at _ rfl _ _ 61 rfl w3.heap.size 23 i0 _ 1 24 Try.underlying61 hi0 hz0 hz1 hz2 rfl (by decide) (.slice av qs cs) qs (VS.map Vs.cell) rfl H8.out.1 ⟨w8.heap.size, 0, none⟩ 1 1 [.slice sa sl sc] rfl rfl H8.out.2.1 H8.out.2.2.1 H8.out.2.2.2.1.1 H8.out.2.2.2.1.2 H8.out.2.2.2.2.1 ?_; intro v' w9 hr9 hg9 hn9 hb9; obtain ⟨a9, c9, rfl⟩ := ownsRow_slice hr9; have HX := Lib.hid (And.intro hr9 (And.intro hg9 hb9)); clear hr9 hg9 hn9 hb9)
          go_roundg (n1 - (qs + 1))
          case measure => omega
          case rel =>
            obtain ⟨v1, v2, v3, v4, v5, v6⟩ := HVS.out
            have hc79 := H8.out.2.2.2.2.2.2.2.1
            obtain ⟨t1, t2, t3, t4, _⟩ := grow_two (p := (sa, sc, Ls)) (H7.out.2.1.chg0 hc79) (H7.out.1.chg0 hc79) v2 (show (VH ++ [(ca, cc, Lc)]).length = qs + 1 by simp [v1]) (fun k h1 h2 => H7.out.2.2.1 k h2 h1) H8.out.2.2.2.2.2.2.1 (by rw [H8.out.2.2.2.2.2.2.2.2.1]; exact HX.out.1) HX.out.2.1 HX.out.2.2 (H7.out.2.2.2.1.tr hc79)
            refine ⟨qs + 1, qs + 1, qs + 1, c7, c9, a7, a9, rfl, by omega, by go_num, rfl, rfl, rfl, rfl, Lib.hid ⟨⟨VH ++ [(ca, cc, Lc)], VS ++ [(sa, sc, Ls)], by simp [v1], by simp [v2], ?_, ?_, t2, t1⟩, fun k h1 h2 => t3 k h2 h1, t4⟩⟩
            · rw [List.map_append, v3, List.take_add_one, HB.out.2.2.1]
              simp only [List.map_cons, List.map_nil, Option.toList_some]
              congr 2
              exact H6.out.2.2.2.2.2.1
            · rw [List.map_append, v4, List.take_add_one, HB.out.2.2.2]
              simp only [List.map_cons, List.map_nil, Option.toList_some]
              congr 2
              exact H8.out.2.2.2.2.2.1
        · obtain rfl : i = n1 := by omega
          obtain ⟨hqh, hqs⟩ := HQ.out
          subst hqh hqs
          go_wp2_with fail
          obtain ⟨VH, VS, v1, v2, v3, v4, v5, v6⟩ := hin.out.ex
          have hbx := hin.out.chg.heap H3.out.1 (by simp)
          have hgq := H.out.1.keep (H3.out.2.tr hin.out.chg).kp
          have G1 := Lib.hid (And.intro v3 (And.intro v5 (And.intro v4 (And.intro v6 (And.intro hbx hgq)))))
          clear v1 v2 v3 v4 v5 v6 hbx hgq x0 x1
          refine wp_region_inv (by kernel_rfl) (by kernel_rfl) (fun l a' w' => ∃ (v7 v8 v42 v43 v44 v45 v46 v47 v48 v49 : Value) (b1 : Option Addr) (d1 : Nat) (b2 : Option Addr) (d2 : Nat) (L : List Cp) (e1 : Option Addr) (f1 : Nat) (e2 : Option Addr) (f2 : Nat) (M : List Cp) (B7 B8 : Nat),
            PairI wq hardP softQ g l v43 v45 v47 v49 v7 v8 b1 d1 b2 d2 L e1 f1 e2 f2 M B7 B8 w' ∧ (l 0 = true → v42 = .slice ah qs ch) ∧ (l 2 = true → v44 = .agg #[.slice a1 qs c1, .slice a2 n2 c2]) ∧ (l 4 = true → v46 = .slice av qs cs) ∧ (l 6 = true → v48 = .agg #[.slice a1 qs c1, .slice a2 n2 c2]) ∧ a' = ⟨#[Value.agg #[Value.slice a1 qs c1, Value.slice a2 n2 c2], Value.pointer (some { block := w.heap.size, off := 0 }), Value.bool false, Value.slice ah qs ch, Value.slice av qs cs, Value.int IntKind.i64 qs, u6, v7, v8, undef, undef, Value.bool true, Value.bool false, Value.agg #[Value.slice a1 qs c1, Value.slice a2 n2 c2], Value.int IntKind.i64 m, Value.bool (decide (300 < m)), Value.bool (decide (300 < m)), Value.agg #[Value.slice a1 qs c1, Value.slice a2 n2 c2], Value.bool true, Value.bool false, Value.bool (decide (300 < m)), Value.int IntKind.i64 qs, Value.pointer (some { block := w.heap.size, off := 0 }), Value.slice a1 qs c1, Value.int IntKind.i64 qs, Value.bool false, u26, u27, u28, u29, u30, u31, u32, u33, u34, u35, u36, u37, u38, u39, u40, u41, u42, u43, v42, v43, v44, v45, v46, v47, v48, v49, undef, undef, undef, undef, undef, undef, undef, undef, undef, undef, undef, undef, undef, undef, undef, undef, undef, undef, undef, undef, undef, undef, undef, undef, undef, undef, undef, undef, undef, undef, undef, undef, undef, undef, undef, undef, undef], []⟩) ?h0 ?hstep ?hdone
          case h0 => exact ⟨_, _, _, _, _, _, _, _, _, _, _, _, _, _, _, _, _, _, _, _, _, _, PairI.start wq hardP softQ g, (fun h => by cases h), (fun h => by cases h), (fun h => by cases h), (fun h => by cases h), rfl⟩
          case hstep =>
            rintro l a' w' ⟨v7, v8, v42, v43, v44, v45, v46, v47, v48, v49, b1, d1, b2, d2, L, e1, f1, e2, f2, M, B7, B8, hI, q0, q2, q4, q6, rfl⟩ j hj hlj hdep
            have hjN : j < 12 := hj
            obtain ⟨y0, y1⟩ := cells2 (hI.chg.heap G1.out.2.2.2.2.1 (by simp))
            rcases (show j = 0 ∨ j = 1 ∨ j = 2 ∨ j = 3 ∨ j = 4 ∨ j = 5 ∨ j = 6 ∨ j = 7 ∨ j = 8 ∨ j = 9 ∨ j = 10 ∨ j = 11 by omega) with rfl | rfl | rfl | rfl | rfl | rfl | rfl | rfl | rfl | rfl | rfl | rfl
            · refine wpOp_atK rfl rfl fun Kk hK => ?_
              go_simp
              exact hK _ _ ⟨_, _, _, _, _, _, _, _, _, _, _, _, _, _, _, _, _, _, _, _, _, _, hI.quiet (by decide), (fun _ => rfl), (by simpa using q2), (by simpa using q4), (by simpa using q6), rfl⟩
            · have l0 := hdep _ rfl { on := 0, ground := .data } (by simp) (by kernel_rfl)
              obtain rfl := q0 l0
              refine wpOp_atK rfl rfl fun Kk hK => ?_
              go_simp
              refine (gram_call hard_ok H.out.2.2.1 G1.out.1 G1.out.2.1 hI.chg HR.out (by have := H.out.2.2.2; omega) HK.out hn1).mono ?_
              rintro e wz ⟨z1, k1, z2, k2, N, rfl, z3, z4, z5, z6⟩
              exact hK _ _ ⟨_, _, _, _, _, _, _, _, _, _, _, _, _, _, _, _, _, _, _, _, _, _, hI.step1 hlj z6 z3 z4 z5, (fun _ => rfl), (by simpa using q2), (by simpa using q4), (by simpa using q6), rfl⟩
            · refine wpOp_atK rfl rfl fun Kk hK => ?_
              go_simp
              exact hK _ _ ⟨_, _, _, _, _, _, _, _, _, _, _, _, _, _, _, _, _, _, _, _, _, _, hI.quiet (by decide), (by simpa using q0), (fun _ => rfl), (by simpa using q4), (by simpa using q6), rfl⟩
            · have l1 := hdep _ rfl { on := 1, ground := .data } (by simp) (by kernel_rfl)
              have l2 := hdep _ rfl { on := 2, ground := .data } (by simp) (by kernel_rfl)
              obtain rfl := q2 l2
              obtain ⟨rfl, hit⟩ := hI.x1 l1
              rw [hlj] at hit
              refine wpOp_atK rfl rfl fun Kk hK => ?_
              go_simp
              refine (named_call G1.out.2.2.2.2.2 hI.chg hn1 hit).mono ?_
              rintro e wz ⟨rfl, z1, z2⟩
              exact hK _ _ ⟨_, _, _, _, _, _, _, _, _, _, _, _, _, _, _, _, _, _, _, _, _, _, hI.step3 l1 hlj z2 z1, (by simpa using q0), (fun _ => rfl), (by simpa using q4), (by simpa using q6), rfl⟩
            · refine wpOp_atK rfl rfl fun Kk hK => ?_
              go_simp
              exact hK _ _ ⟨_, _, _, _, _, _, _, _, _, _, _, _, _, _, _, _, _, _, _, _, _, _, hI.quiet (by decide), (by simpa using q0), (by simpa using q2), (fun _ => rfl), (by simpa using q6), rfl⟩
            · have l4 := hdep _ rfl { on := 4, ground := .data } (by simp) (by kernel_rfl)
              obtain rfl := q4 l4
              refine wpOp_atK rfl rfl fun Kk hK => ?_
              go_simp
              refine (gram_call softQ_ok H.out.2.2.1 G1.out.2.2.1 G1.out.2.2.2.1 hI.chg HR.out (by have := H.out.2.2.2; omega) HK.out hn1).mono ?_
              rintro e wz ⟨z1, k1, z2, k2, N, rfl, z3, z4, z5, z6⟩
              exact hK _ _ ⟨_, _, _, _, _, _, _, _, _, _, _, _, _, _, _, _, _, _, _, _, _, _, hI.step5 hlj z6 z3 z4 z5, (by simpa using q0), (by simpa using q2), (fun _ => rfl), (by simpa using q6), rfl⟩
            · refine wpOp_atK rfl rfl fun Kk hK => ?_
              go_simp
              exact hK _ _ ⟨_, _, _, _, _, _, _, _, _, _, _, _, _, _, _, _, _, _, _, _, _, _, hI.quiet (by decide), (by simpa using q0), (by simpa using q2), (by simpa using q4), (fun _ => rfl), rfl⟩
            · have l5 := hdep _ rfl { on := 5, ground := .data } (by simp) (by kernel_rfl)
              have l6 := hdep _ rfl { on := 6, ground := .data } (by simp) (by kernel_rfl)
              obtain rfl := q6 l6
              obtain ⟨rfl, hit⟩ := hI.y5 l5
              rw [hlj] at hit
              refine wpOp_atK rfl rfl fun Kk hK => ?_
              go_simp
              refine (named_call G1.out.2.2.2.2.2 hI.chg hn1 hit).mono ?_
              rintro e wz ⟨rfl, z1, z2⟩
              exact hK _ _ ⟨_, _, _, _, _, _, _, _, _, _, _, _, _, _, _, _, _, _, _, _, _, _, hI.step7 l5 hlj z2 z1, (by simpa using q0), (by simpa using q2), (by simpa using q4), (fun _ => rfl), rfl⟩
            · refine wpOp_atK rfl rfl fun Kk hK => ?_
              go_simp
              exact hK _ _ ⟨_, _, _, _, _, _, _, _, _, _, _, _, _, _, _, _, _, _, _, _, _, _, hI.step8 hlj, (by simpa using q0), (by simpa using q2), (by simpa using q4), (by simpa using q6), rfl⟩
            · refine wpOp_atK rfl rfl fun Kk hK => ?_
              go_simp
              exact hK _ _ ⟨_, _, _, _, _, _, _, _, _, _, _, _, _, _, _, _, _, _, _, _, _, _, hI.step9 hlj, (by simpa using q0), (by simpa using q2), (by simpa using q4), (by simpa using q6), rfl⟩
            · have l8 := hdep _ rfl { on := 8, ground := .data } (by simp) (by kernel_rfl)
              have l3 := hdep _ rfl { on := 3, ground := .data } (by simp) (by kernel_rfl)
              obtain ⟨rfl, l1⟩ := hI.x3 l3
              obtain ⟨rfl, hB, hbx⟩ := hI.z8 l8
              rw [hlj] at hbx
              have hf0 := free_of_cells hbx 0
              have hf1 := free_of_cells hbx 1
              obtain ⟨c0, c1⟩ := cells2 hbx
              refine wpOp_atK rfl rfl fun Kk hK => ?_
              simp only [gramV]
              go_simp
              exact hK _ _ ⟨_, _, _, _, _, _, _, _, _, _, _, _, _, _, _, _, _, _, _, _, _, _, hI.step10 l3 l8 hlj, (by simpa using q0), (by simpa using q2), (by simpa using q4), (by simpa using q6), rfl⟩
            · have l9 := hdep _ rfl { on := 9, ground := .data } (by simp) (by kernel_rfl)
              have l7 := hdep _ rfl { on := 7, ground := .data } (by simp) (by kernel_rfl)
              obtain ⟨rfl, l1⟩ := hI.y7 l7
              obtain ⟨rfl, hB, hbx⟩ := hI.z9 l9
              rw [hlj] at hbx
              have hf0 := free_of_cells hbx 0
              have hf1 := free_of_cells hbx 1
              obtain ⟨c0, c1⟩ := cells2 hbx
              refine wpOp_atK rfl rfl fun Kk hK => ?_
              simp only [gramV]
              go_simp
              exact hK _ _ ⟨_, _, _, _, _, _, _, _, _, _, _, _, _, _, _, _, _, _, _, _, _, _, hI.step11 l7 l9 hlj, (by simpa using q0), (by simpa using q2), (by simpa using q4), (by simpa using q6), rfl⟩
          case hdone =>
            rintro l a' w' ⟨v7, v8, v42, v43, v44, v45, v46, v47, v48, v49, b1, d1, b2, d2, L, e1, f1, e2, f2, M, B7, B8, hI, q0, q2, q4, q6, rfl⟩ hall
            obtain rfl := q0 (hall 0 (by decide))
            obtain rfl := q2 (hall 2 (by decide))
            obtain rfl := q4 (hall 4 (by decide))
            obtain rfl := q6 (hall 6 (by decide))
            obtain ⟨rfl, hX⟩ := hI.x1 (hall 1 (by decide))
            obtain ⟨rfl, -⟩ := hI.x3 (hall 3 (by decide))
            obtain ⟨rfl, hY⟩ := hI.y5 (hall 5 (by decide))
            obtain ⟨rfl, -⟩ := hI.y7 (hall 7 (by decide))
            obtain ⟨rfl, hB7, hb7⟩ := hI.z8 (hall 8 (by decide))
            obtain ⟨rfl, hB8, hb8⟩ := hI.z9 (hall 9 (by decide))
            rw [hall 3 (by decide)] at hX
            rw [hall 7 (by decide)] at hY
            rw [if_pos (hall 10 (by decide))] at hb7
            rw [if_pos (hall 11 (by decide))] at hb8
            have hwx := wrap_wf hard_ok.len hard_ok.kids hard_ok.wf HR.out (by have := H.out.2.2.2; omega) HK.out H.out.1.wf
            have hwy := wrap_wf softQ_ok.len softQ_ok.kids softQ_ok.wf HR.out (by have := H.out.2.2.2; omega) HK.out H.out.1.wf
            obtain ⟨-, -, hsx⟩ := wrap_small hard_ok.len hard_ok.kids HR.out (by have := H.out.2.2.2; omega) HK.out
            obtain ⟨-, -, hsy⟩ := wrap_small softQ_ok.len softQ_ok.kids HR.out (by have := H.out.2.2.2; omega) HK.out
            obtain ⟨R, hR⟩ : ∃ R, R = rightB (wrapG hardP g) := ⟨_, rfl⟩
            obtain ⟨S, hS⟩ : ∃ S, S = rightB (wrapG softQ g) := ⟨_, rfl⟩
            have hGX := hX.gram hwx.1
            have hGY := hY.gram hwy.1
            simp only [gramV]
            rw [← H.out.2.2.1] at hGX hGY hb7 hb8
            simp only [← H.out.2.2.1]
            have k1 : R = true → graphG (wrapG hardP g) = List.replicate qs [] := fun h => by rw [hard_graph HR.out (by rw [← hR]; exact h), ← H.out.2.2.1]
            have k2 : R = true → ∀ i : Nat, i < qs → goesB (wrapG hardP g) i = false := fun h i hi => hard_goes HR.out (by rw [← hR]; exact h) i (by have := H.out.2.2.1; omega)
            have k3 : S = true → graphG (wrapG softQ g) = graphG g := fun h => softQ_graph HR.out (by rw [← hS]; exact h)
            obtain ⟨gx, hgx⟩ : ∃ gx, gx = wrapG hardP g := ⟨_, rfl⟩
            obtain ⟨gy, hgy⟩ : ∃ gy, gy = wrapG softQ g := ⟨_, rfl⟩
            rw [← hgx] at hwx hR hGX hb7 k1 k2
            rw [← hgy] at hwy hS hGY hb8 k3
            simp only [← hgx, ← hgy]
            obtain ⟨nx, hnx⟩ : ∃ nx, nx = gx.nodes.length := ⟨_, rfl⟩
            obtain ⟨ny, hny⟩ : ∃ ny, ny = gy.nodes.length := ⟨_, rfl⟩
            rw [← hnx] at hGX hb7
            rw [← hny] at hGY hb8
            simp only [← hnx, ← hny]
            have hcw := (H3.out.2.tr hin.out.chg).tr hI.chg
            have hbg := hI.chg.heap G1.out.2.2.2.2.1 (by simp)
            have GX := Lib.hid (And.intro hGX (And.intro hwx.2 (And.intro hR (And.intro k1 (And.intro k2 hb7)))))
            have GY := Lib.hid (And.intro hGY (And.intro hwy.2 (And.intro hS (And.intro k3 hb8))))
            have GW := Lib.hid (And.intro hcw hbg)
            have hgl : (graphG g).length = qs := by rw [graphG_len HR.out]; exact H.out.2.2.1.symm
            have HGL := Lib.hid hgl
            obtain ⟨ws, rfl⟩ : ∃ ws, ws = w' := ⟨_, rfl⟩
            clear hwx hwy hR hS hGX hGY k1 k2 k3 hgx hgy hnx hny hb7 hb8 hcw hbg hX hY hI q0 q2 q4 q6 hall hB7 hB8 G1 hin hgl
            obtain ⟨x0, x1⟩ := cells2 GW.out.2
            obtain ⟨y0, y1⟩ := cells2 GX.out.2.2.2.2.2
            have hp := Right_any ws _ _ _ _ _ _ gx GX.out.1
            rw [← GX.out.2.2.1] at hp
            go_wp2_with fail
            refine hp.mono ?_
            clear hp
            rintro e w4 ⟨rfl, hc4⟩
            have H4 := Lib.hid (And.intro (GW.out.1.tr hc4) (And.intro (hc4.heap GX.out.2.2.2.2.2 (by simp)) (And.intro (hc4.heap GY.out.2.2.2.2 (by simp)) (And.intro (hc4.heap GW.out.2 (by simp)) (And.intro (GX.out.1.keep hc4.kp) (And.intro (GY.out.1.keep hc4.kp) (H.out.1.keep (GW.out.1.tr hc4).kp)))))))
            clear hc4 x0 x1 y0 y1
            cases R with
            | false =>
              have HT := H4
              obtain ⟨wt, rfl⟩ : ∃ wt, wt = w4 := ⟨_, rfl⟩
              obtain ⟨x0, x1⟩ := cells2 HT.out.2.2.2.1
              obtain ⟨z0, z1⟩ := cells2 HT.out.2.2.1
              cases S with
              | false =>
                have cA := calls_rg (w := wt) (fun w1 h1 => Right_any w1 _ _ _ _ _ _ gy (HT.out.2.2.2.2.2.1.keep h1.kp))
                rw [← GY.out.2.2.1] at cA
                have kz0 := cell_rg z0
                have kz1 := cell_rg z1
                clear x0 x1 z0 z1
                go_wp2_with fail
                refine wp_region_quiet_below (by kernel_rfl) (by kernel_rfl) ?_
                repeat (go_big_quiet_step (first | (with_reducible exact cA _ _)))
                refine wpQuiet_nil ?_
                intro w5 hw5
                have hc5 := chg_of_rg hw5
                clear hw5 cA kz0 kz1
                go_wp2_with fail
                go_ret
                exact ⟨rfl, HT.out.1.tr hc5⟩
              | true =>
                have HRy : Hid (∀ W, Chg [] wt W → Calls Try.prog 25 #[.agg #[.slice e1 qs f1, .slice e2 ny f2]] W fun e W' => e = .returned (.bool true) ∧ Chg [] W W') := Lib.hid fun W hW => by
                  have := Right_any W _ _ _ _ _ _ gy (HT.out.2.2.2.2.2.1.keep hW.kp)
                  rw [← GY.out.2.2.1] at this
                  exact this
                have HGy : Hid (∀ W, Chg [] wt W → Calls Try.prog 58 #[.agg #[.slice e1 qs f1, .slice e2 ny f2]] W fun e W' => ∃ a c US, e = .returned (.slice a qs c) ∧ (US.map (·.2.2) = graphG g ∧ OwnIs W.heap.size W' a c US) ∧ Chg [] W W') := Lib.hid fun W hW => by
                  refine (Graph_any W _ _ _ _ _ _ gy (HT.out.2.2.2.2.2.1.keep hW.kp) GY.out.2.1).mono ?_
                  rintro e W' ⟨a, c, US, rfl, h1, h2, h3⟩
                  rw [GY.out.2.2.2.1 (by trivial)] at h1 ⊢
                  exact ⟨a, c, US, by rw [HGL.out], ⟨h1, h2⟩, h3⟩
                have HGg : Hid (∀ W, Chg [] wt W → Calls Try.prog 58 #[.agg #[.slice a1 qs c1, .slice a2 n2 c2]] W fun e W' => ∃ a c US, e = .returned (.slice a qs c) ∧ (US.map (·.2.2) = graphG g ∧ OwnIs W.heap.size W' a c US) ∧ Chg [] W W') := Lib.hid fun W hW => by
                  refine (Graph_any W _ _ _ _ _ _ g (HT.out.2.2.2.2.2.2.keep hW.kp) H.out.2.1).mono ?_
                  rintro e W' ⟨a, c, US, rfl, h1, h2, h3⟩
                  exact ⟨a, c, US, by rw [HGL.out], ⟨h1, h2⟩, h3⟩
                have HSm : Hid (∀ W a c US b d UT, (US.map (·.2.2) = graphG g ∧ OwnIs wt.heap.size W a c US) → (UT.map (·.2.2) = graphG g ∧ OwnIs wt.heap.size W b d UT) → Calls Try.prog 66 #[.slice a qs c, .slice b qs d] W fun e W' => e = .returned (.bool true) ∧ Chg [] W W') := Lib.hid fun W a c US b d UT h1 h2 =>
                  sameIntRows_yes W a b qs c d US UT (by have := congrArg List.length h1.1; rw [List.length_map, HGL.out] at this; exact this.symm) (by omega) h1.2.rows h2.2.rows (h1.1.trans h2.1.symm)
                clear x0 x1 z0 z1
                go_wp2_with fail
                refine wp_region_st (by kernel_rfl) (by kernel_rfl) [79, 80, 81, 82, 83, 84, 85, 86, 87, 88, 2] (by kernel_rfl) (fun rI rV rW => match rI with | 0 => rV = .agg #[.slice e1 qs f1, .slice e2 ny f2] | 1 => rV = .bool true | 2 => rV = .bool false | 3 => rV = .bool false | 4 => rV = .agg #[.slice e1 qs f1, .slice e2 ny f2] | 5 => ∃ ta9 tc9 US9, rV = .slice ta9 qs tc9 ∧ (US9.map (·.2.2) = graphG g ∧ OwnIs wt.heap.size rW ta9 tc9 US9) | 6 => rV = .agg #[.slice a1 qs c1, .slice a2 n2 c2] | 7 => ∃ tb9 td9 UT9, rV = .slice tb9 qs td9 ∧ (UT9.map (·.2.2) = graphG g ∧ OwnIs wt.heap.size rW tb9 td9 UT9) | 8 => rV = .bool true | 9 => rV = .bool true | 10 => rV = .bool true | _ => True) ?hS2 ?hstep2 ?hdone2
                case hS2 =>
                  intro rI rV rW rW' hc rP
                  match rI, rP with
                  | 0, rP => exact rP
                  | 1, rP => exact rP
                  | 2, rP => exact rP
                  | 3, rP => exact rP
                  | 4, rP => exact rP
                  | 5, rP => exact (by obtain ⟨ta9, tc9, US9, e9, hp⟩ := rP; exact ⟨ta9, tc9, US9, e9, ⟨hp.1, hp.2.chg0 hc⟩⟩)
                  | 6, rP => exact rP
                  | 7, rP => exact (by obtain ⟨tb9, td9, UT9, e9, hp⟩ := rP; exact ⟨tb9, td9, UT9, e9, ⟨hp.1, hp.2.chg0 hc⟩⟩)
                  | 8, rP => exact rP
                  | 9, rP => exact rP
                  | 10, rP => exact rP
                  | _ + 11, _ => trivial
                case hstep2 =>
                  intro rI rH us W hC hdep K hK
                  have hiN : rI < 11 := rH
                  simp only [actU, Act.put, List.setIfInBounds_toArray, List.set_cons_succ, List.set_cons_zero, Nat.reduceAdd] at hK ⊢
                  obtain ⟨x0, x1⟩ := cells2 (hC.heap HT.out.2.2.2.1 (by simp))
                  obtain ⟨z0, z1⟩ := cells2 (hC.heap HT.out.2.2.1 (by simp))
                  rcases (show rI = 0 ∨ rI = 1 ∨ rI = 2 ∨ rI = 3 ∨ rI = 4 ∨ rI = 5 ∨ rI = 6 ∨ rI = 7 ∨ rI = 8 ∨ rI = 9 ∨ rI = 10 by omega) with rfl | rfl | rfl | rfl | rfl | rfl | rfl | rfl | rfl | rfl | rfl
                  · simp only [List.getD_cons_succ, List.getD_cons_zero, List.setIfInBounds_toArray, List.set_cons_succ, List.set_cons_zero] at hK ⊢
                    refine wpOp_at rfl rfl ?_
                    go_simp
                    exact hK _ _ _ rfl (Chg.refl _ _) rfl
                  · have l0 := hdep 0 (by kernel_rfl)
                    replace l0 : us 0 = .agg #[.slice e1 qs f1, .slice e2 ny f2] := l0
                    simp only [List.getD_cons_succ, List.getD_cons_zero, List.setIfInBounds_toArray, List.set_cons_succ, List.set_cons_zero, l0] at hK ⊢
                    refine wpOp_at rfl rfl ?_
                    go_simp
                    refine (HRy.out W hC).mono ?_
                    rintro e wz ⟨rfl, hz⟩
                    exact hK _ _ _ rfl hz rfl
                  · have l1 := hdep 1 (by kernel_rfl)
                    replace l1 : us 1 = .bool true := l1
                    simp only [List.getD_cons_succ, List.getD_cons_zero, List.setIfInBounds_toArray, List.set_cons_succ, List.set_cons_zero, l1] at hK ⊢
                    refine wpOp_at rfl rfl ?_
                    go_simp
                    exact hK _ _ _ rfl (Chg.refl _ _) rfl
                  · have l2 := hdep 2 (by kernel_rfl)
                    replace l2 : us 2 = .bool false := l2
                    simp only [List.getD_cons_succ, List.getD_cons_zero, List.setIfInBounds_toArray, List.set_cons_succ, List.set_cons_zero, l2] at hK ⊢
                    refine wpOp_at rfl rfl ?_
                    go_simp
                    exact hK _ _ _ rfl (Chg.refl _ _) rfl
                  · have l3 := hdep 3 (by kernel_rfl)
                    replace l3 : us 3 = .bool false := l3
                    simp only [List.getD_cons_succ, List.getD_cons_zero, List.setIfInBounds_toArray, List.set_cons_succ, List.set_cons_zero, l3] at hK ⊢
                    refine wpOp_want rfl (by rfl) ?_
                    go_simp
                    exact hK _ _ _ rfl (Chg.refl _ _) rfl
                  · have l3 := hdep 3 (by kernel_rfl)
                    replace l3 : us 3 = .bool false := l3
                    have l4 := hdep 4 (by kernel_rfl)
                    replace l4 : us 4 = .agg #[.slice e1 qs f1, .slice e2 ny f2] := l4
                    simp only [List.getD_cons_succ, List.getD_cons_zero, List.setIfInBounds_toArray, List.set_cons_succ, List.set_cons_zero, l3, l4] at hK ⊢
                    refine wpOp_want rfl (by rfl) ?_
                    go_simp
                    refine (HGy.out W hC).mono ?_
                    rintro e wz ⟨ta9, tc9, US9, rfl, hf, hz⟩
                    exact hK _ _ _ rfl hz ⟨ta9, tc9, US9, rfl, ⟨hf.1, hf.2.base hC.size⟩⟩
                  · have l3 := hdep 3 (by kernel_rfl)
                    replace l3 : us 3 = .bool false := l3
                    simp only [List.getD_cons_succ, List.getD_cons_zero, List.setIfInBounds_toArray, List.set_cons_succ, List.set_cons_zero, l3] at hK ⊢
                    refine wpOp_want rfl (by rfl) ?_
                    go_simp
                    exact hK _ _ _ rfl (Chg.refl _ _) rfl
                  · have l3 := hdep 3 (by kernel_rfl)
                    replace l3 : us 3 = .bool false := l3
                    have l6 := hdep 6 (by kernel_rfl)
                    replace l6 : us 6 = .agg #[.slice a1 qs c1, .slice a2 n2 c2] := l6
                    simp only [List.getD_cons_succ, List.getD_cons_zero, List.setIfInBounds_toArray, List.set_cons_succ, List.set_cons_zero, l3, l6] at hK ⊢
                    refine wpOp_want rfl (by rfl) ?_
                    go_simp
                    refine (HGg.out W hC).mono ?_
                    rintro e wz ⟨tb9, td9, UT9, rfl, hf, hz⟩
                    exact hK _ _ _ rfl hz ⟨tb9, td9, UT9, rfl, ⟨hf.1, hf.2.base hC.size⟩⟩
                  · have l3 := hdep 3 (by kernel_rfl)
                    replace l3 : us 3 = .bool false := l3
                    have l5 := hdep 5 (by kernel_rfl)
                    obtain ⟨ta9, tc9, US9, l5, p5⟩ := l5
                    have l7 := hdep 7 (by kernel_rfl)
                    obtain ⟨tb9, td9, UT9, l7, p7⟩ := l7
                    simp only [List.getD_cons_succ, List.getD_cons_zero, List.setIfInBounds_toArray, List.set_cons_succ, List.set_cons_zero, l3, l5, l7] at hK ⊢
                    refine wpOp_want rfl (by rfl) ?_
                    go_simp
                    refine (HSm.out W ta9 tc9 US9 tb9 td9 UT9 p5 p7).mono ?_
                    rintro e wz ⟨rfl, hz⟩
                    exact hK _ _ _ rfl hz rfl
                  · have l3 := hdep 3 (by kernel_rfl)
                    replace l3 : us 3 = .bool false := l3
                    have l8 := hdep 8 (by kernel_rfl)
                    replace l8 : us 8 = .bool true := l8
                    simp only [List.getD_cons_succ, List.getD_cons_zero, List.setIfInBounds_toArray, List.set_cons_succ, List.set_cons_zero, l3, l8] at hK ⊢
                    refine wpOp_at rfl rfl ?_
                    go_simp
                    exact hK _ _ _ rfl (Chg.refl _ _) rfl
                  · have l9 := hdep 9 (by kernel_rfl)
                    replace l9 : us 9 = .bool true := l9
                    simp only [List.getD_cons_succ, List.getD_cons_zero, List.setIfInBounds_toArray, List.set_cons_succ, List.set_cons_zero, l9] at hK ⊢
                    refine wpOp_at rfl rfl ?_
                    go_simp
                    exact hK _ _ _ rfl (Chg.refl _ _) rfl
                case hdone2 =>
                  intro us W hC hall
                  have l0 := hall 0 (by decide)
                  replace l0 : us 0 = .agg #[.slice e1 qs f1, .slice e2 ny f2] := l0
                  have l1 := hall 1 (by decide)
                  replace l1 : us 1 = .bool true := l1
                  have l2 := hall 2 (by decide)
                  replace l2 : us 2 = .bool false := l2
                  have l3 := hall 3 (by decide)
                  replace l3 : us 3 = .bool false := l3
                  have l4 := hall 4 (by decide)
                  replace l4 : us 4 = .agg #[.slice e1 qs f1, .slice e2 ny f2] := l4
                  have l5 := hall 5 (by decide)
                  obtain ⟨ta9, tc9, US9, l5, p5⟩ := l5
                  have l6 := hall 6 (by decide)
                  replace l6 : us 6 = .agg #[.slice a1 qs c1, .slice a2 n2 c2] := l6
                  have l7 := hall 7 (by decide)
                  obtain ⟨tb9, td9, UT9, l7, p7⟩ := l7
                  have l8 := hall 8 (by decide)
                  replace l8 : us 8 = .bool true := l8
                  have l9 := hall 9 (by decide)
                  replace l9 : us 9 = .bool true := l9
                  have l10 := hall 10 (by decide)
                  replace l10 : us 10 = .bool true := l10
                  simp only [actU, Act.put, List.setIfInBounds_toArray, List.set_cons_succ, List.set_cons_zero, Nat.reduceAdd, l0, l1, l2, l3, l4, l5, l6, l7, l8, l9, l10]
                  clear hall l0 l1 l2 l3 l4 l5 l6 l7 l8 l9 l10
                  have HE := Lib.hid hC
                  clear hC
                  go_wp2_with fail
                  go_ret
                  exact ⟨rfl, HT.out.1.tr HE.out⟩
            | true =>
              obtain ⟨y0, y1⟩ := cells2 H4.out.2.1
              go_wp2_with fail
              refine (Graph_any w4 _ _ _ _ _ _ gx H4.out.2.2.2.2.1 GX.out.2.1).mono ?_
              rintro e w5 ⟨ga, gc, VS, rfl, hVS, hO, hc5⟩
              rw [GX.out.2.2.2.1 (by trivial)] at hVS ⊢
              rw [List.length_replicate]
              have H5 := Lib.hid (And.intro hVS (And.intro hO (And.intro (hc5.heap H4.out.2.2.2.1 (by simp)) hc5)))
              clear hVS hO hc5 y0 y1
              obtain ⟨x0, x1⟩ := cells2 H5.out.2.2.1
              go_wp2_with fail
              clear x0 x1
              go_loopg [10] qs (fun d iv wr => ∃ i : Nat, d = qs - i ∧ i ≤ qs ∧ iv = .int .i64 i ∧ Hid (Chg [] w5 wr))
              case atStart => exact ⟨0, rfl, Nat.zero_le _, rfl, Lib.hid (Chg.refl _ _)⟩
              case round =>
                obtain ⟨i, rfl, hi, rfl, hin⟩ := hrel
                obtain ⟨wl, rfl⟩ : ∃ wz, wz = wr := ⟨_, rfl⟩
                have h4l := H5.out.2.2.2.tr hin.out
                by_cases hlt : i < qs
                · have hVl : i < VS.length := by
                    have := congrArg List.length H5.out.1
                    rw [List.length_map, List.length_replicate] at this
                    omega
                  obtain ⟨gb, rfl, -, hgc⟩ := (H5.out.2.1.chg0 hin.out).at hVl
                  have hrow : VS[i].2.2 = [] := by
                    have h1 : (VS.map (·.2.2))[i]? = some VS[i].2.2 := by simp [hVl]
                    rw [H5.out.1, List.getElem?_replicate, if_pos hlt] at h1
                    exact (Option.some.inj h1).symm
                  simp only [Is.cell, hrow, List.length_nil] at hgc
                  obtain ⟨va, hva⟩ : ∃ va, va = VS[i].1 := ⟨_, rfl⟩
                  obtain ⟨vc, hvc⟩ : ∃ vc, vc = VS[i].2.1 := ⟨_, rfl⟩
                  rw [← hva, ← hvc] at hgc
                  obtain ⟨y0, y1⟩ := cells2 (h4l.heap H4.out.2.1 (by simp))
                  have hp := Goes_any wl _ _ _ _ _ _ gx (H4.out.2.2.2.2.1.keep h4l.kp) GX.out.2.1 i
                  rw [GX.out.2.2.2.2.1 (by trivial) i hlt] at hp
                  clear hVl hrow hva hvc h4l
                  go_wp2_with fail
                  refine hp.mono ?_
                  clear hp
                  rintro e wn ⟨rfl, hcn⟩
                  have HN := Lib.hid hcn
                  clear hcn y0 y1 hgc
                  go_wp2_with fail
                  go_roundg (qs - (i + 1))
                  case measure => omega
                  case rel => exact ⟨i + 1, rfl, by omega, by go_num, Lib.hid (hin.out.tr HN.out)⟩
                · obtain rfl : i = qs := by omega
                  go_wp2_with fail
                  have HT := Lib.hid (And.intro (H4.out.1.tr h4l) (And.intro (h4l.heap H4.out.2.1 (by simp)) (And.intro (h4l.heap H4.out.2.2.1 (by simp)) (And.intro (h4l.heap H4.out.2.2.2.1 (by simp)) (And.intro (H4.out.2.2.2.2.1.keep h4l.kp) (And.intro (H4.out.2.2.2.2.2.1.keep h4l.kp) (H4.out.2.2.2.2.2.2.keep h4l.kp)))))))
                  obtain ⟨wt, rfl⟩ : ∃ wt, wt = wl := ⟨_, rfl⟩
                  clear h4l hin
                  obtain ⟨x0, x1⟩ := cells2 HT.out.2.2.2.1
                  obtain ⟨z0, z1⟩ := cells2 HT.out.2.2.1
                  cases S with
                  | false =>
                    have cA := calls_rg (w := wt) (fun w1 h1 => Right_any w1 _ _ _ _ _ _ gy (HT.out.2.2.2.2.2.1.keep h1.kp))
                    rw [← GY.out.2.2.1] at cA
                    have kz0 := cell_rg z0
                    have kz1 := cell_rg z1
                    clear x0 x1 z0 z1
                    go_wp2_with fail
                    refine wp_region_quiet_below (by kernel_rfl) (by kernel_rfl) ?_
                    repeat (go_big_quiet_step (first | (with_reducible exact cA _ _)))
                    refine wpQuiet_nil ?_
                    intro w5 hw5
                    have hc5 := chg_of_rg hw5
                    clear hw5 cA kz0 kz1
                    go_wp2_with fail
                    go_ret
                    exact ⟨rfl, HT.out.1.tr hc5⟩
                  | true =>
                    have HRy : Hid (∀ W, Chg [] wt W → Calls Try.prog 25 #[.agg #[.slice e1 i f1, .slice e2 ny f2]] W fun e W' => e = .returned (.bool true) ∧ Chg [] W W') := Lib.hid fun W hW => by
                      have := Right_any W _ _ _ _ _ _ gy (HT.out.2.2.2.2.2.1.keep hW.kp)
                      rw [← GY.out.2.2.1] at this
                      exact this
                    have HGy : Hid (∀ W, Chg [] wt W → Calls Try.prog 58 #[.agg #[.slice e1 i f1, .slice e2 ny f2]] W fun e W' => ∃ a c US, e = .returned (.slice a i c) ∧ (US.map (·.2.2) = graphG g ∧ OwnIs W.heap.size W' a c US) ∧ Chg [] W W') := Lib.hid fun W hW => by
                      refine (Graph_any W _ _ _ _ _ _ gy (HT.out.2.2.2.2.2.1.keep hW.kp) GY.out.2.1).mono ?_
                      rintro e W' ⟨a, c, US, rfl, h1, h2, h3⟩
                      rw [GY.out.2.2.2.1 (by trivial)] at h1 ⊢
                      exact ⟨a, c, US, by rw [HGL.out], ⟨h1, h2⟩, h3⟩
                    have HGg : Hid (∀ W, Chg [] wt W → Calls Try.prog 58 #[.agg #[.slice a1 i c1, .slice a2 n2 c2]] W fun e W' => ∃ a c US, e = .returned (.slice a i c) ∧ (US.map (·.2.2) = graphG g ∧ OwnIs W.heap.size W' a c US) ∧ Chg [] W W') := Lib.hid fun W hW => by
                      refine (Graph_any W _ _ _ _ _ _ g (HT.out.2.2.2.2.2.2.keep hW.kp) H.out.2.1).mono ?_
                      rintro e W' ⟨a, c, US, rfl, h1, h2, h3⟩
                      exact ⟨a, c, US, by rw [HGL.out], ⟨h1, h2⟩, h3⟩
                    have HSm : Hid (∀ W a c US b d UT, (US.map (·.2.2) = graphG g ∧ OwnIs wt.heap.size W a c US) → (UT.map (·.2.2) = graphG g ∧ OwnIs wt.heap.size W b d UT) → Calls Try.prog 66 #[.slice a i c, .slice b i d] W fun e W' => e = .returned (.bool true) ∧ Chg [] W W') := Lib.hid fun W a c US b d UT h1 h2 =>
                      sameIntRows_yes W a b i c d US UT (by have := congrArg List.length h1.1; rw [List.length_map, HGL.out] at this; exact this.symm) (by omega) h1.2.rows h2.2.rows (h1.1.trans h2.1.symm)
                    clear x0 x1 z0 z1
                    go_wp2_with fail
                    refine wp_region_st (by kernel_rfl) (by kernel_rfl) [79, 80, 81, 82, 83, 84, 85, 86, 87, 88, 2] (by kernel_rfl) (fun rI rV rW => match rI with | 0 => rV = .agg #[.slice e1 i f1, .slice e2 ny f2] | 1 => rV = .bool true | 2 => rV = .bool false | 3 => rV = .bool false | 4 => rV = .agg #[.slice e1 i f1, .slice e2 ny f2] | 5 => ∃ ta9 tc9 US9, rV = .slice ta9 i tc9 ∧ (US9.map (·.2.2) = graphG g ∧ OwnIs wt.heap.size rW ta9 tc9 US9) | 6 => rV = .agg #[.slice a1 i c1, .slice a2 n2 c2] | 7 => ∃ tb9 td9 UT9, rV = .slice tb9 i td9 ∧ (UT9.map (·.2.2) = graphG g ∧ OwnIs wt.heap.size rW tb9 td9 UT9) | 8 => rV = .bool true | 9 => rV = .bool true | 10 => rV = .bool true | _ => True) ?hS2 ?hstep2 ?hdone2
                    case hS2 =>
                      intro rI rV rW rW' hc rP
                      match rI, rP with
                      | 0, rP => exact rP
                      | 1, rP => exact rP
                      | 2, rP => exact rP
                      | 3, rP => exact rP
                      | 4, rP => exact rP
                      | 5, rP => exact (by obtain ⟨ta9, tc9, US9, e9, hp⟩ := rP; exact ⟨ta9, tc9, US9, e9, ⟨hp.1, hp.2.chg0 hc⟩⟩)
                      | 6, rP => exact rP
                      | 7, rP => exact (by obtain ⟨tb9, td9, UT9, e9, hp⟩ := rP; exact ⟨tb9, td9, UT9, e9, ⟨hp.1, hp.2.chg0 hc⟩⟩)
                      | 8, rP => exact rP
                      | 9, rP => exact rP
                      | 10, rP => exact rP
                      | _ + 11, _ => trivial
                    case hstep2 =>
                      intro rI rH us W hC hdep K hK
                      have hiN : rI < 11 := rH
                      simp only [actU, Act.put, List.setIfInBounds_toArray, List.set_cons_succ, List.set_cons_zero, Nat.reduceAdd] at hK ⊢
                      obtain ⟨x0, x1⟩ := cells2 (hC.heap HT.out.2.2.2.1 (by simp))
                      obtain ⟨z0, z1⟩ := cells2 (hC.heap HT.out.2.2.1 (by simp))
                      rcases (show rI = 0 ∨ rI = 1 ∨ rI = 2 ∨ rI = 3 ∨ rI = 4 ∨ rI = 5 ∨ rI = 6 ∨ rI = 7 ∨ rI = 8 ∨ rI = 9 ∨ rI = 10 by omega) with rfl | rfl | rfl | rfl | rfl | rfl | rfl | rfl | rfl | rfl | rfl
                      · simp only [List.getD_cons_succ, List.getD_cons_zero, List.setIfInBounds_toArray, List.set_cons_succ, List.set_cons_zero] at hK ⊢
                        refine wpOp_at rfl rfl ?_
                        go_simp
                        exact hK _ _ _ rfl (Chg.refl _ _) rfl
                      · have l0 := hdep 0 (by kernel_rfl)
                        replace l0 : us 0 = .agg #[.slice e1 i f1, .slice e2 ny f2] := l0
                        simp only [List.getD_cons_succ, List.getD_cons_zero, List.setIfInBounds_toArray, List.set_cons_succ, List.set_cons_zero, l0] at hK ⊢
                        refine wpOp_at rfl rfl ?_
                        go_simp
                        refine (HRy.out W hC).mono ?_
                        rintro e wz ⟨rfl, hz⟩
                        exact hK _ _ _ rfl hz rfl
                      · have l1 := hdep 1 (by kernel_rfl)
                        replace l1 : us 1 = .bool true := l1
                        simp only [List.getD_cons_succ, List.getD_cons_zero, List.setIfInBounds_toArray, List.set_cons_succ, List.set_cons_zero, l1] at hK ⊢
                        refine wpOp_at rfl rfl ?_
                        go_simp
                        exact hK _ _ _ rfl (Chg.refl _ _) rfl
                      · have l2 := hdep 2 (by kernel_rfl)
                        replace l2 : us 2 = .bool false := l2
                        simp only [List.getD_cons_succ, List.getD_cons_zero, List.setIfInBounds_toArray, List.set_cons_succ, List.set_cons_zero, l2] at hK ⊢
                        refine wpOp_at rfl rfl ?_
                        go_simp
                        exact hK _ _ _ rfl (Chg.refl _ _) rfl
                      · have l3 := hdep 3 (by kernel_rfl)
                        replace l3 : us 3 = .bool false := l3
                        simp only [List.getD_cons_succ, List.getD_cons_zero, List.setIfInBounds_toArray, List.set_cons_succ, List.set_cons_zero, l3] at hK ⊢
                        refine wpOp_want rfl (by rfl) ?_
                        go_simp
                        exact hK _ _ _ rfl (Chg.refl _ _) rfl
                      · have l3 := hdep 3 (by kernel_rfl)
                        replace l3 : us 3 = .bool false := l3
                        have l4 := hdep 4 (by kernel_rfl)
                        replace l4 : us 4 = .agg #[.slice e1 i f1, .slice e2 ny f2] := l4
                        simp only [List.getD_cons_succ, List.getD_cons_zero, List.setIfInBounds_toArray, List.set_cons_succ, List.set_cons_zero, l3, l4] at hK ⊢
                        refine wpOp_want rfl (by rfl) ?_
                        go_simp
                        refine (HGy.out W hC).mono ?_
                        rintro e wz ⟨ta9, tc9, US9, rfl, hf, hz⟩
                        exact hK _ _ _ rfl hz ⟨ta9, tc9, US9, rfl, ⟨hf.1, hf.2.base hC.size⟩⟩
                      · have l3 := hdep 3 (by kernel_rfl)
                        replace l3 : us 3 = .bool false := l3
                        simp only [List.getD_cons_succ, List.getD_cons_zero, List.setIfInBounds_toArray, List.set_cons_succ, List.set_cons_zero, l3] at hK ⊢
                        refine wpOp_want rfl (by rfl) ?_
                        go_simp
                        exact hK _ _ _ rfl (Chg.refl _ _) rfl
                      · have l3 := hdep 3 (by kernel_rfl)
                        replace l3 : us 3 = .bool false := l3
                        have l6 := hdep 6 (by kernel_rfl)
                        replace l6 : us 6 = .agg #[.slice a1 i c1, .slice a2 n2 c2] := l6
                        simp only [List.getD_cons_succ, List.getD_cons_zero, List.setIfInBounds_toArray, List.set_cons_succ, List.set_cons_zero, l3, l6] at hK ⊢
                        refine wpOp_want rfl (by rfl) ?_
                        go_simp
                        refine (HGg.out W hC).mono ?_
                        rintro e wz ⟨tb9, td9, UT9, rfl, hf, hz⟩
                        exact hK _ _ _ rfl hz ⟨tb9, td9, UT9, rfl, ⟨hf.1, hf.2.base hC.size⟩⟩
                      · have l3 := hdep 3 (by kernel_rfl)
                        replace l3 : us 3 = .bool false := l3
                        have l5 := hdep 5 (by kernel_rfl)
                        obtain ⟨ta9, tc9, US9, l5, p5⟩ := l5
                        have l7 := hdep 7 (by kernel_rfl)
                        obtain ⟨tb9, td9, UT9, l7, p7⟩ := l7
                        simp only [List.getD_cons_succ, List.getD_cons_zero, List.setIfInBounds_toArray, List.set_cons_succ, List.set_cons_zero, l3, l5, l7] at hK ⊢
                        refine wpOp_want rfl (by rfl) ?_
                        go_simp
                        refine (HSm.out W ta9 tc9 US9 tb9 td9 UT9 p5 p7).mono ?_
                        rintro e wz ⟨rfl, hz⟩
                        exact hK _ _ _ rfl hz rfl
                      · have l3 := hdep 3 (by kernel_rfl)
                        replace l3 : us 3 = .bool false := l3
                        have l8 := hdep 8 (by kernel_rfl)
                        replace l8 : us 8 = .bool true := l8
                        simp only [List.getD_cons_succ, List.getD_cons_zero, List.setIfInBounds_toArray, List.set_cons_succ, List.set_cons_zero, l3, l8] at hK ⊢
                        refine wpOp_at rfl rfl ?_
                        go_simp
                        exact hK _ _ _ rfl (Chg.refl _ _) rfl
                      · have l9 := hdep 9 (by kernel_rfl)
                        replace l9 : us 9 = .bool true := l9
                        simp only [List.getD_cons_succ, List.getD_cons_zero, List.setIfInBounds_toArray, List.set_cons_succ, List.set_cons_zero, l9] at hK ⊢
                        refine wpOp_at rfl rfl ?_
                        go_simp
                        exact hK _ _ _ rfl (Chg.refl _ _) rfl
                    case hdone2 =>
                      intro us W hC hall
                      have l0 := hall 0 (by decide)
                      replace l0 : us 0 = .agg #[.slice e1 i f1, .slice e2 ny f2] := l0
                      have l1 := hall 1 (by decide)
                      replace l1 : us 1 = .bool true := l1
                      have l2 := hall 2 (by decide)
                      replace l2 : us 2 = .bool false := l2
                      have l3 := hall 3 (by decide)
                      replace l3 : us 3 = .bool false := l3
                      have l4 := hall 4 (by decide)
                      replace l4 : us 4 = .agg #[.slice e1 i f1, .slice e2 ny f2] := l4
                      have l5 := hall 5 (by decide)
                      obtain ⟨ta9, tc9, US9, l5, p5⟩ := l5
                      have l6 := hall 6 (by decide)
                      replace l6 : us 6 = .agg #[.slice a1 i c1, .slice a2 n2 c2] := l6
                      have l7 := hall 7 (by decide)
                      obtain ⟨tb9, td9, UT9, l7, p7⟩ := l7
                      have l8 := hall 8 (by decide)
                      replace l8 : us 8 = .bool true := l8
                      have l9 := hall 9 (by decide)
                      replace l9 : us 9 = .bool true := l9
                      have l10 := hall 10 (by decide)
                      replace l10 : us 10 = .bool true := l10
                      simp only [actU, Act.put, List.setIfInBounds_toArray, List.set_cons_succ, List.set_cons_zero, Nat.reduceAdd, l0, l1, l2, l3, l4, l5, l6, l7, l8, l9, l10]
                      clear hall l0 l1 l2 l3 l4 l5 l6 l7 l8 l9 l10
                      have HE := Lib.hid hC
                      clear hC
                      go_wp2_with fail
                      go_ret
                      exact ⟨rfl, HT.out.1.tr HE.out⟩
end Go.Proofs.Ytibgfgfmljhimaa

/-
  NullMore: what the law computes.
  Conditions: the grammar reads as data, within the reach.
-/
import Derived.Test.YtibgfgfmljhimaaKB4
import Derived.Test.YtibgfgfmljhimaaNAw
import Derived.Test.YtibgfgfmljhimaaNN1
import Derived.Test.YtibgfgfmljhimaaGPick
import Derived.Test.YtibgfgfmljhimaaGKit
set_option linter.unusedVariables false
set_option linter.unusedSimpArgs false
set_option linter.unnecessarySimpa false
namespace Go.Proofs.Ytibgfgfmljhimaa
open Go.RowKit Go.MapKept Go.Shelf

/-! ### What is put -/
theorem wpOp_guardK {P : Program} {ops : Array Oper} {Q : Exit → Act → World → Prop} {i : Nat} {o : Oper} {K : Act → World → Prop} {a : Act} {w : World} (ho : ops[i]? = some o) (hw : Region.wanted o (yielded ops a.tmps) = true) (h : ∀ K' : Act → World → Prop, (∀ a w, K a w → K' a w) → o.wp P a w K' Q) : wpOp P ops Q i K a w := by
  simp only [wpOp, ho, hw, if_true]
  exact .inl (h K fun _ _ h => h)
theorem rulesN_le (g : Gr) : (rulesN g).length ≤ 9223372036854775807 := by
  unfold rulesN
  split
  · rename_i h
    have := pickL_le g.rules.length (fun i => decide (0 < rankG g i))
    have := (right_sizes h).2.1
    omega
  · simp
theorem nodesN_le (g : Gr) : (nodesN g).length ≤ 9223372036854775807 := by
  unfold nodesN
  split
  · rename_i h
    have := pickL_le g.nodes.length (fun n => mayG g n)
    have := (right_sizes h).2.2
    omega
  · simp

theorem leaf_kids {g : Gr} (h : rightB g = true) {n : Nat} (hn : n < g.nodes.length) (hk : g.nodes[n].k = 2 ∨ g.nodes[n].k = 3 ∨ g.nodes[n].k = 4 ∨ g.nodes[n].k = 5) : g.nodes[n].kids = [] := by
  have h1 := right_node h hn
  unfold nodeB nodeN at h1
  rcases hk with e | e | e | e <;> rw [e] at h1 <;> simp [bareB] at h1 <;> exact List.eq_nil_of_length_eq_zero (by have := h1; simp_all)
theorem right_ext {g : Gr} (h : rightB g = true) {n : Nat} (hn : n < g.nodes.length) (hk : g.nodes[n].k = 2 ∨ g.nodes[n].k = 3 ∨ g.nodes[n].k = 4 ∨ g.nodes[n].k = 5) {k : Int} (hkk : k = 1 ∨ k = 2) : rightB (g.put n (bareN k)) = true := by
  refine right_put h hn (by rw [leaf_kids h hn hk]; rfl) ?_
  rcases hkk with rfl | rfl
  · simp only [nodeB, nodeN, bareN]
    rw [if_pos (by simp)]
    decide +kernel
  · simp only [nodeB, nodeN, bareN]
    rw [if_pos (by simp)]
    decide +kernel
theorem put_len (g : Gr) (n : Nat) (y : Nd) : (g.put n y).nodes.length = g.nodes.length := by simp [Gr.put]
theorem put_wf {g : Gr} (h : g.Wf) (n : Nat) (k : Int) (hk : I64 k) : (g.put n (bareN k)).Wf := by
  refine ⟨fun x hx => ?_, h.names, h.bodies⟩
  rcases List.mem_or_eq_of_mem_set hx with hx | rfl
  · exact h.nodes x hx
  · exact ⟨hk, (by show I64 0; decide), (by show I64 0; decide), by simp [bareN], (by show (ByteArray.mk #[]).size ≤ maxLen; decide)⟩
theorem put_reach {g : Gr} (h : Reach g) (n : Nat) (k : Int) : Reach (g.put n (bareN k)) := by
  refine ⟨h.1, by rw [put_len]; exact h.2.1, fun x hx => ?_⟩
  rcases List.mem_or_eq_of_mem_set hx with hx | rfl
  · exact h.2.2 x hx
  · simp [bareN]
/-- What stands where a leaf was put. -/
theorem put_rows {B : Nat} {w : World} {b1 : Option Addr} {d1 G d2 : Nat} {L : List Cp} {g : Gr} (h1 : FreshRules B w b1 d1 g.rules) (h2 : OwnN B w (some ⟨G, 0, none⟩) d2 L) (hL : L.map (·.1) = g.nodes) (wf : g.Wf) {i : Nat} (hi : i < L.length) (k : Int) (hk : I64 k) :
    GramAt (set9 w G (i * 9) (.int .i64 k) (.int .u64 0) (.int .u64 0) (.int .u64 0) (.int .u64 0) (.string ⟨#[]⟩) (.int .i64 0) (.int .i64 0) (.slice none 0 0)) b1 g.rules.length d1 (some ⟨G, 0, none⟩) g.nodes.length d2 (g.put i (bareN k)) ∧
    Chg [G] w (set9 w G (i * 9) (.int .i64 k) (.int .u64 0) (.int .u64 0) (.int .u64 0) (.int .u64 0) (.string ⟨#[]⟩) (.int .i64 0) (.int .i64 0) (.slice none 0 0)) := by
  obtain ⟨q1, q2⟩ := h2.put hi (y := bareN k) rfl
  refine ⟨?_, q2⟩
  obtain ⟨G', e1, _, ⟨cur, hcur⟩, _⟩ := h2.at hi
  have e2 : G = G' := by simpa using e1
  subst e2
  have hr := q2.rowOf h1 (fun j hj => by simp only [List.mem_singleton] at hj; subst hj; exact .of_cells hcur (by decide))
  obtain ⟨k1, k2, k3, k4⟩ := rules_row (row_base hr (Nat.zero_le _))
  obtain ⟨m1, m2, m3⟩ := q1.read
  have e : (L.set i (bareN k, none, 0)).map (·.1) = (g.put i (bareN k)).nodes := by rw [List.map_set, hL]; rfl
  rw [e] at m1
  have hl : L.length = g.nodes.length := by rw [← hL]; simp
  rw [List.length_set, hl] at m2
  exact ⟨rfl, k3, k4, k1, (put_len _ _ _).symm, m2, m3, m1, put_wf wf i k hk⟩
/-- A grammar in rows of its own reads as one. -/
theorem gram_rows {B : Nat} {w : World} {b1 : Option Addr} {d1 : Nat} {b2 : Option Addr} {d2 : Nat} {L : List Cp} {g : Gr} (h1 : FreshRules B w b1 d1 g.rules) (h2 : OwnN B w b2 d2 L) (hL : L.map (·.1) = g.nodes) (wf : g.Wf) : GramAt w b1 g.rules.length d1 b2 g.nodes.length d2 g := by
  obtain ⟨k1, k2, k3, k4⟩ := rules_row (row_base h1 (Nat.zero_le _))
  obtain ⟨m1, m2, m3⟩ := h2.read
  rw [hL] at m1
  have hl : L.length = g.nodes.length := by rw [← hL]; simp
  rw [hl] at m2
  exact ⟨rfl, k3, k4, k1, rfl, m2, m3, m1, wf⟩

set_option maxRecDepth 100000 in
set_option maxHeartbeats 16000000 in
theorem nullMoreLaw_any (w : World) (a1 : Option Addr) (n1 c1 : Nat) (a2 : Option Addr) (n2 c2 : Nat) (g : Gr) (hg : GramAt w a1 n1 c1 a2 n2 c2 g) (hre : Reach g) (n : Int) (hn : I64 n) :
    Calls Try.prog 9 #[.agg #[.slice a1 n1 c1, .slice a2 n2 c2], .int .i64 n] w fun e w' => e = .returned (.bool true) ∧ Chg [] w w' := by
  have H := Lib.hid (And.intro hg (And.intro hre (And.intro hg.e1 (And.intro hg.e2 hn))))
  clear hg hre hn
  go_enter Try.func9, Try.ntmps9
  go_wp2_with fail
  refine (awake11_any _).mono ?_
  rintro e w1 ⟨rfl, hc1⟩
  have hb1 := hc1.heap (heap_alloc_same _ _) (by simp)
  have H1 := Lib.hid (And.intro hb1 (((Chg.refl [] w).alloc _).tr0 hc1))
  clear hc1 hb1
  obtain ⟨x0, x1⟩ := cells2 H1.out.1
  go_wp2_with fail
  refine (size11_any _ a1 n1 c1 a2 n2 c2 g (H.out.1.keep H1.out.2.kp) H.out.2.1).mono ?_
  rintro e w2 ⟨m, rfl, hm1, hm2, hc2⟩
  have H2 := Lib.hid (And.intro (hc2.heap H1.out.1 (by simp)) (H1.out.2.tr hc2))
  clear hc2 x0 x1
  by_cases hm : (300 : Int) < m
  · go_wp2_with fail
    go_ret
    exact ⟨rfl, H2.out.2⟩
  · have hsm : smallG g := by
      by_cases hq : smallG g
      · exact hq
      · exact absurd (hm2 hq) hm
    clear hm1 hm2
    obtain ⟨z1, z2, z3⟩ := kids_few hsm
    have hn1 : n1 ≤ 300 := by have := H.out.2.2.1; omega
    have hn2 : n2 ≤ 300 := by have := H.out.2.2.2.1; omega
    have HK := Lib.hid z3
    clear hsm z1 z2 z3
    obtain ⟨x0, x1⟩ := cells2 H2.out.1
    go_wp2_with fail
    refine (Right_any _ a1 n1 c1 a2 n2 c2 g (H.out.1.keep H2.out.2.kp)).mono ?_
    rintro e w3 ⟨rfl, hc3⟩
    have H3 := Lib.hid (And.intro (hc3.heap H2.out.1 (by simp)) (H2.out.2.tr hc3))
    clear hc3 x0 x1
    obtain ⟨x0, x1⟩ := cells2 H3.out.1
    cases hr : rightB g with
    | false =>
      go_wp2_with fail
      go_ret
      exact ⟨rfl, H3.out.2⟩
    | true =>
      have HR := Lib.hid hr
      have hpos : 0 < n2 := by
        obtain ⟨_, _, hq⟩ := right_body hr (k := 0) (right_sizes hr).1
        rw [H.out.2.2.2.1]; omega
      clear hr
      obtain ⟨mi, hmi⟩ : ∃ mi : Nat, (mi : Int) = n % (n2 : Int) := ⟨(n % (n2 : Int)).toNat, by have := Int.emod_nonneg n (show (n2 : Int) ≠ 0 by omega); omega⟩
      have hml : mi < n2 := by have := Int.emod_lt_of_pos n (show (0 : Int) < n2 by omega); omega
      have hpick := fun W => pickK_any n n2 W (by omega) (by omega) H.out.2.2.2.2.1 H.out.2.2.2.2.2
      rw [← hmi] at hpick
      clear hmi
      go_wp2_with fail
      refine (hpick _).mono ?_
      clear hpick
      rintro e w4 ⟨rfl, hc4⟩
      have H4 := Lib.hid (And.intro (hc4.heap H3.out.1 (by simp)) (H3.out.2.tr hc4))
      clear hc4 x0 x1
      obtain ⟨x0, x1⟩ := cells2 H4.out.1
      go_wp2_with fail
      refine (CopyGrammarF_any _ a1 n1 c1 a2 n2 c2 g (H.out.1.keep H4.out.2.kp) hn1 hn2 HK.out).mono ?_
      rintro e w5 ⟨b1, d1, b2, d2, L, rfl, hL, hR5, hN5, hc5⟩
      have hmL : mi < L.length := by
        have := congrArg List.length hL
        rw [List.length_map] at this
        have := H.out.2.2.2.1
        omega
      obtain ⟨G, rfl, hBG, ⟨cur, hcur⟩, hcells, hfr⟩ := hN5.at hmL
      have hmn : mi < g.nodes.length := by have := H.out.2.2.2.1; omega
      obtain ⟨bn, on, ak, nk, ck, hae, hx⟩ := (H.out.1.keep (H4.out.2.tr hc5).kp).nodes mi hmn
      obtain ⟨kk, hkk⟩ : ∃ kk, kk = g.nodes[mi].k := ⟨_, rfl⟩
      have hxk := hx.k
      rw [← hkk] at hxk
      obtain ⟨rr, hrr⟩ : ∃ rr, rr = g.nodes[mi].r := ⟨_, rfl⟩
      have hxr := hx.r
      rw [← hrr] at hxr
      have HRR : Hid (∃ h : mi < g.nodes.length, rr = g.nodes[mi].r) := Lib.hid ⟨hmn, hrr⟩
      clear hrr
      have hbn := World.block_lt_of_cell? _ _ hxk
      simp only at hbn
      have hgb5 := hc5.heap H4.out.1 (by simp)
      have hcw5 := H4.out.2.tr hc5
      have hsz5 := hcw5.size
      have hbb := lt_of_block hgb5
      have hcur6 := heap_alloc_lt hcur (.cells #[.slice b1 g.rules.length d1, .slice (some ⟨G, 0, none⟩) g.nodes.length d2] 25)
      have hcA := (Chg.refl [] w5).alloc (.cells #[.slice b1 g.rules.length d1, .slice (some ⟨G, 0, none⟩) g.nodes.length d2] 25)
      have hN6 := hN5.chg0 hcA
      have hR6 := hcA.row hR5 (fun _ _ => by simp)
      have hbx := heap_alloc_same w5 (.cells #[.slice b1 g.rules.length d1, .slice (some ⟨G, 0, none⟩) g.nodes.length d2] 25)
      have hgb6 := hcA.heap hgb5 (by simp)
      have hex : ∀ r, r < 9 → ∃ v, (w5.alloc (.cells #[.slice b1 g.rules.length d1, .slice (some ⟨G, 0, none⟩) g.nodes.length d2] 25)).cell? ⟨G, mi * 9 + r, none⟩ = some v := by
        intro r hr
        obtain ⟨G', e1, _, _, hc6, _⟩ := hN6.at hmL
        cases e1
        refine ⟨(L[mi].cells)[r]'(by rw [cp_len]; exact hr), ?_⟩
        rw [hc6 r hr]
        exact List.getElem?_eq_getElem _
      obtain ⟨v0, hv0⟩ := hex 0 (by decide)
      obtain ⟨v1, hv1⟩ := hex 1 (by decide)
      obtain ⟨v2, hv2⟩ := hex 2 (by decide)
      obtain ⟨v3, hv3⟩ := hex 3 (by decide)
      obtain ⟨v4, hv4⟩ := hex 4 (by decide)
      obtain ⟨v5, hv5⟩ := hex 5 (by decide)
      obtain ⟨v6, hv6⟩ := hex 6 (by decide)
      obtain ⟨v7, hv7⟩ := hex 7 (by decide)
      obtain ⟨v8, hv8⟩ := hex 8 (by decide)
      have fz := fun o => free_of_cells hcur6 o
      rw [Nat.add_zero] at hv0
      have H5 := Lib.hid (And.intro hL (And.intro hR6 (And.intro hN6 (And.intro hgb6 (And.intro hbx (And.intro (hcw5.tr hcA) hBG))))))
      have HKK : Hid (∃ h : mi < g.nodes.length, kk = g.nodes[mi].k) := Lib.hid ⟨hmn, hkk⟩
      obtain ⟨x0, x1⟩ := cells2 hgb6
      obtain ⟨y0, y1⟩ := cells2 hbx
      have hmn' : mi < g.nodes.length := hmn
      subst hae
      clear hx hkk hL hR5 hN5 hc5 hcells hfr hcA hN6 hR6 hbx hgb6 hgb5 hcw5 hex hcur hcur6
      by_cases hk4 : kk = 4 ∨ kk = 3 ∨ kk = 2
      · rcases hk4 with rfl | rfl | rfl
        all_goals go_wp2_with fail
        all_goals
          obtain ⟨hL, hR6, hN6, hgb6, hbx, hcw6, hBG'⟩ := H5.out
          obtain ⟨hgx, hcx⟩ := put_rows hR6 hN6 hL H.out.1.wf hmL 1 (by decide)
          obtain ⟨_, e1, _, ⟨cur', hcur'⟩, _⟩ := hN6.at hmL
          cases e1
          have hne1 : w.heap.size ≠ G := by intro e; rw [e, hcur'] at hgb6; simp at hgb6
          have hne2 : w5.heap.size ≠ G := by intro e; rw [e, hcur'] at hbx; simp at hbx
          have hgb7 := hcx.heap hgb6 (by simpa using hne1)
          have hbx7 := hcx.heap hbx (by simpa using hne2)
          have hcw7 := hcw6.trans hcx (fun j hj => .inr (by have := H4.out.2.size; simp at hj; omega))
          clear hL hR6 hN6 hgb6 hbx hcw6 hcx hcur' hne1 hne2 x0 x1 y0 y1 hv0 hv1 hv2 hv3 hv4 hv5 hv6 hv7 hv8 fz
          unfold set9 at hgx hgb7 hbx7 hcw7
          obtain ⟨w7, e7⟩ : ∃ w7, w7 = ((((((((((w5.alloc (.cells #[.slice b1 g.rules.length d1, .slice (some ⟨G, 0, none⟩) g.nodes.length d2] 25)).setCell ⟨G, mi * 9, none⟩ (.int .i64 1)).setCell ⟨G, mi * 9 + 1, none⟩ (.int .u64 0)).setCell ⟨G, mi * 9 + 2, none⟩ (.int .u64 0)).setCell ⟨G, mi * 9 + 3, none⟩ (.int .u64 0)).setCell ⟨G, mi * 9 + 4, none⟩ (.int .u64 0)).setCell ⟨G, mi * 9 + 5, none⟩ (.string ⟨#[]⟩)).setCell ⟨G, mi * 9 + 6, none⟩ (.int .i64 0)).setCell ⟨G, mi * 9 + 7, none⟩ (.int .i64 0)).setCell ⟨G, mi * 9 + 8, none⟩ (.slice none 0 0)) := ⟨_, rfl⟩
          rw [← e7] at hgx hgb7 hbx7 hcw7 ⊢
          obtain ⟨hmx, hkx⟩ := HKK.out
          have hleaf : g.nodes[mi].k = 2 ∨ g.nodes[mi].k = 3 ∨ g.nodes[mi].k = 4 ∨ g.nodes[mi].k = 5 := by omega
          have hrx := right_ext HR.out hmx hleaf (k := 1) (.inl rfl)
          have hhard : mayG g mi = false := by
            show mayN g.nodes _ mi = false
            rw [mayN_eq (falls_right HR.out) _ hmx]
            exact kind_hard (by omega) _ _
          have hsoft : mayG (g.put mi (bareN 1)) mi = true := by
            have hm' : mi < (g.put mi (bareN 1)).nodes.length := by rw [put_len]; exact hmx
            show mayN (g.put mi (bareN 1)).nodes _ mi = true
            rw [mayN_eq (falls_right hrx) _ hm']
            simp [Gr.put, kindMay, easyK, bareN]
          have H7 := Lib.hid (And.intro hgx (And.intro hgb7 (And.intro hbx7 (And.intro hcw7 (And.intro hrx (And.intro hhard hsoft))))))
          clear e7 hgx hgb7 hbx7 hcw7 hmx hkx hleaf hrx hhard hsoft
          go_wp2_with fail
          go_loopg [7] n1 (fun d iv wr => ∃ i : Nat, d = n1 - i ∧ i ≤ n1 ∧ iv = .int .i64 i ∧ Hid (Chg [] w7 wr))
          case atStart => exact ⟨0, rfl, Nat.zero_le _, rfl, Lib.hid (Chg.refl _ _)⟩
          case round =>
            obtain ⟨i, rfl, hi, rfl, hin⟩ := hrel
            obtain ⟨wq, rfl⟩ : ∃ wz, wz = wr := ⟨_, rfl⟩
            obtain ⟨x0, x1⟩ := cells2 (hin.out.heap H7.out.2.1 (by simp))
            obtain ⟨y0, y1⟩ := cells2 (hin.out.heap H7.out.2.2.1 (by simp))
            have hgq := H.out.1.keep (H7.out.2.2.2.1.tr hin.out).kp
            have hxq := H7.out.1.keep hin.out.kp
            by_cases hlt : i < n1
            · have hir : i < g.rules.length := by have := H.out.2.2.1; omega
              obtain ⟨za, hza⟩ : ∃ za, za = rankG g i := ⟨_, rfl⟩
              obtain ⟨zb, hzb⟩ : ∃ zb, zb = rankG (g.put mi (bareN 1)) i := ⟨_, rfl⟩
              have ha : rankI g i = (za : Int) := by simp [rankI, HR.out, hir, hza]
              have hb : rankI (g.put mi (bareN 1)) i = (zb : Int) := by
                have : i < (g.put mi (bareN 1)).rules.length := hir
                simp [rankI, H7.out.2.2.2.2.1, this, hzb]
              have hmore : 0 < za → 0 < zb ∧ zb ≤ za := by rw [hza, hzb]; exact fun h => rank_more rfl h
              have cA := calls_rg (w := wq) (fun w1 h1 => nullRank_any w1 a1 n1 c1 _ n2 c2 g (hgq.keep h1.kp) H.out.2.1 i)
              have cB := calls_rg (w := wq) (fun w1 h1 => nullRank_any w1 b1 _ d1 _ _ d2 (g.put mi (bareN 1)) (hxq.keep h1.kp) (put_reach H.out.2.1 mi 1) i)
              rw [ha] at cA
              rw [hb] at cB
              have kx0 := cell_rg x0
              have kx1 := cell_rg x1
              have ky0 := cell_rg y0
              have ky1 := cell_rg y1
              clear hza hzb ha hb hir hgq hxq
              go_wp2_with fail
              refine wp_region_quiet_below (by kernel_rfl) (by kernel_rfl) ?_
              repeat (go_big_quiet_step (first | (with_reducible exact cA _ _) | (with_reducible exact cB _ _)))
              refine wpQuiet_nil ?_
              intro wz hwz
              have hcz := chg_of_rg hwz
              clear hwz kx0 kx1 ky0 ky1 cA cB x0 x1 y0 y1
              by_cases hz0 : 0 < za
              · obtain ⟨hb0, hb1⟩ := hmore hz0
                have hb2 : ((zb : Int) == 0) = false := by simp; omega
                have hb3 : (zb : Int) ≤ za := by omega
                go_wp2_with fail
                go_roundg (n1 - (i + 1))
                case measure => omega
                case rel => exact ⟨i + 1, rfl, by omega, by go_num, Lib.hid (hin.out.tr hcz)⟩
              · obtain rfl : za = 0 := by omega
                go_wp2_with fail
                go_roundg (n1 - (i + 1))
                case measure => omega
                case rel => exact ⟨i + 1, rfl, by omega, by go_num, Lib.hid (hin.out.tr hcz)⟩
            · obtain rfl : i = n1 := by omega
              have e1 : nodeI (g.put mi (bareN 1)) mi = true := by
                have : mi < (g.put mi (bareN 1)).nodes.length := by rw [put_len]; exact hmn'
                simp [nodeI, H7.out.2.2.2.2.1, this, H7.out.2.2.2.2.2.2]
              have e2 : nodeI g mi = false := by simp [nodeI, H7.out.2.2.2.2.2.1]
              have hp := nullNode_any wq b1 _ d1 _ _ d2 (g.put mi (bareN 1)) hxq (put_reach H.out.2.1 mi 1) mi
              rw [e1] at hp
              have HP := Lib.hid (And.intro hgq e2)
              clear e1 e2 hgq hxq
              go_wp2_with fail
              refine hp.mono ?_
              rintro e wz ⟨rfl, hcz⟩
              clear hp x0 x1 y0 y1
              obtain ⟨x0, x1⟩ := cells2 (hcz.heap (hin.out.heap H7.out.2.1 (by simp)) (by simp))
              have hp := nullNode_any wz a1 i c1 _ n2 c2 g (HP.out.1.keep hcz.kp) H.out.2.1 mi
              rw [HP.out.2] at hp
              have HZ := Lib.hid hcz
              clear hcz
              go_wp2_with fail
              refine hp.mono ?_
              rintro e wy ⟨rfl, hcy⟩
              have HY := Lib.hid hcy
              clear hcy hp x0 x1
              go_wp2_with fail
              go_ret
              exact ⟨rfl, ((H7.out.2.2.2.1.tr hin.out).tr HZ.out).tr HY.out⟩
      · by_cases hk5 : kk = 5
        · subst hk5
          obtain ⟨hmx, hkx⟩ := HKK.out
          obtain ⟨_, hrx⟩ := HRR.out
          obtain ⟨hr0, hr1⟩ := right_calls HR.out _ (List.getElem_mem hmx) hkx.symm
          obtain ⟨rn, hrn⟩ : ∃ rn : Nat, rr = rn := ⟨rr.toNat, by omega⟩
          have hrl : rn < g.rules.length := by omega
          obtain ⟨z, hz⟩ : ∃ z, z = rankG g rn := ⟨_, rfl⟩
          have hrk : rankI g rn = (z : Int) := by simp [rankI, HR.out, hrl, hz]
          have hmay : mayG g mi = decide (0 < z) := by
            show mayN g.nodes _ mi = _
            rw [mayN_eq (falls_right HR.out) _ hmx, kind_call hkx.symm, ← hrx, hrn, hz, Bool.eq_iff_iff]
            simp [callsR, rankG]
            exact ⟨fun h => decide_eq_true h, fun h => of_decide_eq_true h⟩
          have hsame : z = 0 → (∀ i, rankG (g.put mi (bareN 2)) i = rankG g i) ∧ ∀ n, mayG (g.put mi (bareN 2)) n = mayG g n := fun h0 =>
            may_same hmx rfl hkx.symm (.inl (by rw [← hrx, hrn, Int.toNat_natCast, ← hz]; exact h0))
          have hrx2 := right_ext HR.out hmx (.inr (.inr (.inr hkx.symm))) (k := 2) (.inr rfl)
          subst hrn
          have HV := Lib.hid (And.intro hmay (And.intro hsame hrx2))
          clear hmx hkx hrx hr0 hr1 hrl hz hmay hsame hrx2
          have cA := calls_rg (w := w5.alloc (.cells #[.slice b1 g.rules.length d1, .slice (some ⟨G, 0, none⟩) g.nodes.length d2] 25)) (fun w1 h1 => nullRule_any w1 a1 n1 c1 _ n2 c2 g (H.out.1.keep (H5.out.2.2.2.2.2.1.tr h1).kp) H.out.2.1 rn)
          rw [hrk] at cA
          have kx0 := cell_rg x0
          have kx1 := cell_rg x1
          have kxr := cell_rg (Lib.cell?_alloc_some (.cells #[.slice b1 g.rules.length d1, .slice (some ⟨G, 0, none⟩) g.nodes.length d2] 25) hxr)
          go_wp2_with fail
          refine wp_region_quiet_below (by kernel_rfl) (by kernel_rfl) ?_
          repeat (go_big_quiet_step (first | (with_reducible exact cA _ _)))
          refine wpQuiet_nil ?_
          intro wz hwz
          have hcz := chg_of_rg hwz
          have H6 := Lib.hid (And.intro hcz (And.intro (hcz.heap H5.out.2.2.2.1 (by simp)) (And.intro (hcz.heap H5.out.2.2.2.2.1 (by simp)) (H5.out.2.2.2.2.2.1.tr hcz))))
          clear hwz kx0 kx1 kxr cA x0 x1 y0 y1 hrk hxr
          obtain ⟨x0, x1⟩ := cells2 H6.out.2.1
          by_cases hz0 : 0 < z
          · have hzi : (0 : Int) < z := by omega
            have hp := nullNode_any wz a1 n1 c1 _ n2 c2 g (H.out.1.keep H6.out.2.2.2.kp) H.out.2.1 mi
            have e1 : nodeI g mi = true := by simp [nodeI, HR.out, HV.out.1, hz0, hmn']
            rw [e1] at hp
            clear e1
            go_wp2_with fail
            refine hp.mono ?_
            rintro e wy ⟨rfl, hcy⟩
            have HY := Lib.hid (H6.out.2.2.2.tr hcy)
            clear hcy hp x0 x1
            go_wp2_with fail
            go_ret
            exact ⟨rfl, HY.out⟩
          · obtain rfl : z = 0 := by omega
            obtain ⟨y0, y1⟩ := cells2 H6.out.2.2.1
            replace hv0 := H6.out.1.cell hv0 (by simp)
            replace hv1 := H6.out.1.cell hv1 (by simp)
            replace hv2 := H6.out.1.cell hv2 (by simp)
            replace hv3 := H6.out.1.cell hv3 (by simp)
            replace hv4 := H6.out.1.cell hv4 (by simp)
            replace hv5 := H6.out.1.cell hv5 (by simp)
            replace hv6 := H6.out.1.cell hv6 (by simp)
            replace hv7 := H6.out.1.cell hv7 (by simp)
            replace hv8 := H6.out.1.cell hv8 (by simp)
            have hNz := H5.out.2.2.1.chg0 H6.out.1
            have fz' : ∀ o, wz.frozen? ⟨G, o, none⟩ = false := by
              obtain ⟨G', e1, _, _, _, hf⟩ := hNz.at hmL
              cases e1
              exact hf
            clear fz
            go_wp2_with fail
            have hRz := H6.out.1.row H5.out.2.1 (fun _ _ => by simp)
            obtain ⟨hgx, hcx⟩ := put_rows hRz hNz H5.out.1 H.out.1.wf hmL 2 (by decide)
            obtain ⟨_, e1, _, ⟨cur', hcur'⟩, _⟩ := hNz.at hmL
            cases e1
            have hne1 : w.heap.size ≠ G := by intro e; have h := H6.out.2.1; rw [e, hcur'] at h; simp at h
            have hne2 : w5.heap.size ≠ G := by intro e; have h := H6.out.2.2.1; rw [e, hcur'] at h; simp at h
            have hgb7 := hcx.heap H6.out.2.1 (by simpa using hne1)
            have hbx7 := hcx.heap H6.out.2.2.1 (by simpa using hne2)
            have hcw7 := H6.out.2.2.2.trans hcx (fun j hj => .inr (by have := H4.out.2.size; simp at hj; omega))
            clear hRz hNz hcx hcur' hne1 hne2 x0 x1 y0 y1 hv0 hv1 hv2 hv3 hv4 hv5 hv6 hv7 hv8 fz'
            unfold set9 at hgx hgb7 hbx7 hcw7
            obtain ⟨w7, e7⟩ : ∃ w7, w7 = (((((((((wz.setCell ⟨G, mi * 9, none⟩ (.int .i64 2)).setCell ⟨G, mi * 9 + 1, none⟩ (.int .u64 0)).setCell ⟨G, mi * 9 + 2, none⟩ (.int .u64 0)).setCell ⟨G, mi * 9 + 3, none⟩ (.int .u64 0)).setCell ⟨G, mi * 9 + 4, none⟩ (.int .u64 0)).setCell ⟨G, mi * 9 + 5, none⟩ (.string ⟨#[]⟩)).setCell ⟨G, mi * 9 + 6, none⟩ (.int .i64 0)).setCell ⟨G, mi * 9 + 7, none⟩ (.int .i64 0)).setCell ⟨G, mi * 9 + 8, none⟩ (.slice none 0 0)) := ⟨_, rfl⟩
            rw [← e7] at hgx hgb7 hbx7 hcw7 ⊢
            obtain ⟨hs1, hs2⟩ := HV.out.2.1 (by simp)
            have hrules : rulesN (g.put mi (bareN 2)) = rulesN g := by
              unfold rulesN
              rw [if_pos HV.out.2.2, if_pos HR.out]
              show pickL g.rules.length _ = _
              congr 1
              funext i
              rw [hs1]
            have hnodes : nodesN (g.put mi (bareN 2)) = nodesN g := by
              unfold nodesN
              rw [if_pos HV.out.2.2, if_pos HR.out, put_len]
              congr 1
              funext i
              rw [hs2]
            have H7 := Lib.hid (And.intro hgx (And.intro hgb7 (And.intro hbx7 (And.intro hcw7 (And.intro hrules hnodes)))))
            clear e7 hgx hgb7 hbx7 hcw7 hs1 hs2 hrules hnodes
            refine wp_region_inv (by kernel_rfl) (by kernel_rfl) (fun l a' w' => ∃ u93 u94 u95 u96 u97 u98 u99 u100 u101 u102 u103 u104 u4, Chg [] w7 w' ∧ (l 0 = true → u93 = .agg #[.slice a1 n1 c1, .slice (some ⟨bn, on, none⟩) n2 c2]) ∧ (l 1 = true → ∃ ra ka, u94 = .slice ra (rulesN g).length ka ∧ Ints w' ra (rulesN g)) ∧ (l 2 = true → u95 = .agg #[.slice b1 g.rules.length d1, .slice (some ⟨G, 0, none⟩) g.nodes.length d2]) ∧ (l 3 = true → ∃ rb kb, u96 = .slice rb (rulesN (g.put mi (bareN 2))).length kb ∧ Ints w' rb (rulesN (g.put mi (bareN 2)))) ∧ (l 4 = true → u97 = .bool true) ∧ (l 5 = true → u98 = .bool true) ∧ (l 6 = true → u99 = .agg #[.slice a1 n1 c1, .slice (some ⟨bn, on, none⟩) n2 c2]) ∧ (l 7 = true → ∃ rc kc, u100 = .slice rc (nodesN g).length kc ∧ Ints w' rc (nodesN g)) ∧ (l 8 = true → u101 = .agg #[.slice b1 g.rules.length d1, .slice (some ⟨G, 0, none⟩) g.nodes.length d2]) ∧ (l 9 = true → ∃ rd kd, u102 = .slice rd (nodesN (g.put mi (bareN 2))).length kd ∧ Ints w' rd (nodesN (g.put mi (bareN 2)))) ∧ (l 10 = true → u103 = .bool true) ∧ (l 11 = true → u104 = .bool true) ∧ (l 12 = true → u4 = .bool true) ∧ a' = { tmps := #[.agg #[.slice a1 n1 c1, .slice (some ⟨bn, on, none⟩) n2 c2], .int .i64 n, .pointer (some ⟨w.heap.size, 0, none⟩), undef, u4, .int .i64 mi, .pointer (some ⟨w5.heap.size, 0, none⟩), undef, undef, undef, .bool true, .bool false, .agg #[.slice a1 n1 c1, .slice (some ⟨bn, on, none⟩) n2 c2], .int .i64 m, .bool (decide (300 < m)), .bool (decide (300 < m)), .agg #[.slice a1 n1 c1, .slice (some ⟨bn, on, none⟩) n2 c2], .bool true, .bool false, .bool (decide (300 < m)), .int .i64 n, .pointer (some ⟨w.heap.size, 1, none⟩), .slice (some ⟨bn, on, none⟩) n2 c2, .int .i64 n2, .int .i64 mi, .agg #[.slice a1 n1 c1, .slice (some ⟨bn, on, none⟩) n2 c2], .agg #[.slice b1 g.rules.length d1, .slice (some ⟨G, 0, none⟩) g.nodes.length d2], .pointer (some ⟨w.heap.size, 1, none⟩), .slice (some ⟨bn, on, none⟩) n2 c2, .int .i64 mi, .pointer (some ⟨bn, on + mi * 9, none⟩), .pointer (some ⟨bn, on + mi * 9, none⟩), .int .i64 5, .bool false, .bool false, .bool false, .bool false, undef, undef, undef, undef, undef, undef, undef, undef, undef, undef, undef, undef, undef, undef, undef, undef, undef, undef, undef, undef, undef, undef, undef, undef, undef, undef, undef, undef, undef, undef, undef, undef, undef, undef, undef, undef, undef, undef, .bool true, .bool true, .agg #[.slice a1 n1 c1, .slice (some ⟨bn, on, none⟩) n2 c2], .pointer (some ⟨w.heap.size, 1, none⟩), .slice (some ⟨bn, on, none⟩) n2 c2, .int .i64 mi, .pointer (some ⟨bn, on + mi * 9, none⟩), .pointer (some ⟨bn, on + mi * 9 + 6, none⟩), .int .i64 rn, .bool false, undef, undef, undef, .pointer (some ⟨w5.heap.size, 1, none⟩), .slice (some ⟨G, 0, none⟩) g.nodes.length d2, .int .i64 mi, .agg #[.int .i64 2, .int .u64 0, .int .u64 0, .int .u64 0, .int .u64 0, .string ⟨#[]⟩, .int .i64 0, .int .i64 0, .slice none 0 0], .pointer (some ⟨G, mi * 9, none⟩), u93, u94, u95, u96, u97, u98, u99, u100, u101, u102, u103, u104], defers := [] }) ?h0 ?hstep ?hdone
            case h0 => exact ⟨_, _, _, _, _, _, _, _, _, _, _, _, _, (Chg.refl _ _).drew, (fun h => by cases h), (fun h => by cases h), (fun h => by cases h), (fun h => by cases h), (fun h => by cases h), (fun h => by cases h), (fun h => by cases h), (fun h => by cases h), (fun h => by cases h), (fun h => by cases h), (fun h => by cases h), (fun h => by cases h), (fun h => by cases h), rfl⟩
            case hstep =>
              rintro l a' w' ⟨u93, u94, u95, u96, u97, u98, u99, u100, u101, u102, u103, u104, u4, hC, q0, q1, q2, q3, q4, q5, q6, q7, q8, q9, q10, q11, q12, rfl⟩ j hj hlj hdep
              have hjN : j < 13 := hj
              obtain ⟨x0, x1⟩ := cells2 (hC.heap H7.out.2.1 (by simp))
              obtain ⟨y0, y1⟩ := cells2 (hC.heap H7.out.2.2.1 (by simp))
              rcases (show j = 0 ∨ j = 1 ∨ j = 2 ∨ j = 3 ∨ j = 4 ∨ j = 5 ∨ j = 6 ∨ j = 7 ∨ j = 8 ∨ j = 9 ∨ j = 10 ∨ j = 11 ∨ j = 12 by omega) with rfl | rfl | rfl | rfl | rfl | rfl | rfl | rfl | rfl | rfl | rfl | rfl | rfl
              · refine wpOp_atK rfl rfl fun Kk hK => ?_
                go_simp
                exact hK _ _ ⟨_, _, _, _, _, _, _, _, _, _, _, _, _, hC, (fun _ => rfl), (by simpa using q1), (by simpa using q2), (by simpa using q3), (by simpa using q4), (by simpa using q5), (by simpa using q6), (by simpa using q7), (by simpa using q8), (by simpa using q9), (by simpa using q10), (by simpa using q11), (by simpa using q12), rfl⟩
              · have l0 := hdep _ rfl { on := 0, ground := .data } (by simp) (by kernel_rfl)
                obtain rfl := q0 l0
                refine wpOp_atK rfl rfl fun Kk hK => ?_
                go_simp
                refine (nullRules_any w' a1 n1 c1 _ n2 c2 g (H.out.1.keep (H7.out.2.2.2.1.tr hC).kp) H.out.2.1).mono ?_
                rintro e wz ⟨ra, ka, rfl, hf, hz⟩
                exact hK _ _ ⟨_, _, _, _, _, _, _, _, _, _, _, _, _, hC.tr hz, (fun _ => rfl), (fun _ => ⟨ra, ka, rfl, (ownInts_read hf.own).1⟩), (by simpa using q2), (fun h => by obtain ⟨rb, kb, e0, p0⟩ := q3 (by simpa using h); exact ⟨rb, kb, e0, p0.keep hz.kp⟩), (by simpa using q4), (by simpa using q5), (by simpa using q6), (fun h => by obtain ⟨rc, kc, e0, p0⟩ := q7 (by simpa using h); exact ⟨rc, kc, e0, p0.keep hz.kp⟩), (by simpa using q8), (fun h => by obtain ⟨rd, kd, e0, p0⟩ := q9 (by simpa using h); exact ⟨rd, kd, e0, p0.keep hz.kp⟩), (by simpa using q10), (by simpa using q11), (by simpa using q12), rfl⟩
              · refine wpOp_atK rfl rfl fun Kk hK => ?_
                go_simp
                exact hK _ _ ⟨_, _, _, _, _, _, _, _, _, _, _, _, _, hC, (by simpa using q0), (by simpa using q1), (fun _ => rfl), (by simpa using q3), (by simpa using q4), (by simpa using q5), (by simpa using q6), (by simpa using q7), (by simpa using q8), (by simpa using q9), (by simpa using q10), (by simpa using q11), (by simpa using q12), rfl⟩
              · have l2 := hdep _ rfl { on := 2, ground := .data } (by simp) (by kernel_rfl)
                obtain rfl := q2 l2
                refine wpOp_atK rfl rfl fun Kk hK => ?_
                go_simp
                refine (nullRules_any w' b1 _ d1 _ _ d2 (g.put mi (bareN 2)) (H7.out.1.keep hC.kp) (put_reach H.out.2.1 mi 2)).mono ?_
                rintro e wz ⟨rb, kb, rfl, hf, hz⟩
                exact hK _ _ ⟨_, _, _, _, _, _, _, _, _, _, _, _, _, hC.tr hz, (by simpa using q0), (fun h => by obtain ⟨ra, ka, e0, p0⟩ := q1 (by simpa using h); exact ⟨ra, ka, e0, p0.keep hz.kp⟩), (fun _ => rfl), (fun _ => ⟨rb, kb, rfl, (ownInts_read hf.own).1⟩), (by simpa using q4), (by simpa using q5), (by simpa using q6), (fun h => by obtain ⟨rc, kc, e0, p0⟩ := q7 (by simpa using h); exact ⟨rc, kc, e0, p0.keep hz.kp⟩), (by simpa using q8), (fun h => by obtain ⟨rd, kd, e0, p0⟩ := q9 (by simpa using h); exact ⟨rd, kd, e0, p0.keep hz.kp⟩), (by simpa using q10), (by simpa using q11), (by simpa using q12), rfl⟩
              · have l1 := hdep _ rfl { on := 1, ground := .data } (by simp) (by kernel_rfl)
                obtain ⟨ra, ka, rfl, p1⟩ := q1 l1
                have l3 := hdep _ rfl { on := 3, ground := .data } (by simp) (by kernel_rfl)
                obtain ⟨rb, kb, rfl, p3⟩ := q3 l3
                refine wpOp_atK rfl rfl fun Kk hK => ?_
                have hp := sameInts_any w' ra rb _ ka _ kb (rulesN g) (rulesN (g.put mi (bareN 2))) rfl rfl (rulesN_le g) p1 p3
                rw [decide_eq_true H7.out.2.2.2.2.1.symm] at hp
                go_simp
                refine (hp).mono ?_
                rintro e wz ⟨rfl, hz⟩
                exact hK _ _ ⟨_, _, _, _, _, _, _, _, _, _, _, _, _, hC.tr hz, (by simpa using q0), (fun _ => ⟨ra, ka, rfl, (p1.keep hz.kp)⟩), (by simpa using q2), (fun _ => ⟨rb, kb, rfl, (p3.keep hz.kp)⟩), (fun _ => rfl), (by simpa using q5), (by simpa using q6), (fun h => by obtain ⟨rc, kc, e0, p0⟩ := q7 (by simpa using h); exact ⟨rc, kc, e0, p0.keep hz.kp⟩), (by simpa using q8), (fun h => by obtain ⟨rd, kd, e0, p0⟩ := q9 (by simpa using h); exact ⟨rd, kd, e0, p0.keep hz.kp⟩), (by simpa using q10), (by simpa using q11), (by simpa using q12), rfl⟩
              · have l4 := hdep _ rfl { on := 4, ground := .data } (by simp) (by kernel_rfl)
                obtain rfl := q4 l4
                refine wpOp_atK rfl rfl fun Kk hK => ?_
                go_simp
                exact hK _ _ ⟨_, _, _, _, _, _, _, _, _, _, _, _, _, hC, (by simpa using q0), (by simpa using q1), (by simpa using q2), (by simpa using q3), (fun _ => rfl), (fun _ => rfl), (by simpa using q6), (by simpa using q7), (by simpa using q8), (by simpa using q9), (by simpa using q10), (by simpa using q11), (by simpa using q12), rfl⟩
              · have l5 := hdep _ rfl { on := 5, ground := .guard } (by simp) (by kernel_rfl)
                obtain rfl := q5 l5
                refine wpOp_guardK rfl (by rfl) fun Kk hK => ?_
                go_simp
                exact hK _ _ ⟨_, _, _, _, _, _, _, _, _, _, _, _, _, hC, (by simpa using q0), (by simpa using q1), (by simpa using q2), (by simpa using q3), (by simpa using q4), (fun _ => rfl), (fun _ => rfl), (by simpa using q7), (by simpa using q8), (by simpa using q9), (by simpa using q10), (by simpa using q11), (by simpa using q12), rfl⟩
              · have l6 := hdep _ rfl { on := 6, ground := .data } (by simp) (by kernel_rfl)
                obtain rfl := q6 l6
                have l5 := hdep _ rfl { on := 5, ground := .guard } (by simp) (by kernel_rfl)
                obtain rfl := q5 l5
                refine wpOp_guardK rfl (by rfl) fun Kk hK => ?_
                go_simp
                refine (nullNodes_any w' a1 n1 c1 _ n2 c2 g (H.out.1.keep (H7.out.2.2.2.1.tr hC).kp) H.out.2.1).mono ?_
                rintro e wz ⟨rc, kc, rfl, hf, hz⟩
                exact hK _ _ ⟨_, _, _, _, _, _, _, _, _, _, _, _, _, hC.tr hz, (by simpa using q0), (fun h => by obtain ⟨ra, ka, e0, p0⟩ := q1 (by simpa using h); exact ⟨ra, ka, e0, p0.keep hz.kp⟩), (by simpa using q2), (fun h => by obtain ⟨rb, kb, e0, p0⟩ := q3 (by simpa using h); exact ⟨rb, kb, e0, p0.keep hz.kp⟩), (by simpa using q4), (fun _ => rfl), (fun _ => rfl), (fun _ => ⟨rc, kc, rfl, (ownInts_read hf.own).1⟩), (by simpa using q8), (fun h => by obtain ⟨rd, kd, e0, p0⟩ := q9 (by simpa using h); exact ⟨rd, kd, e0, p0.keep hz.kp⟩), (by simpa using q10), (by simpa using q11), (by simpa using q12), rfl⟩
              · have l5 := hdep _ rfl { on := 5, ground := .guard } (by simp) (by kernel_rfl)
                obtain rfl := q5 l5
                refine wpOp_guardK rfl (by rfl) fun Kk hK => ?_
                go_simp
                exact hK _ _ ⟨_, _, _, _, _, _, _, _, _, _, _, _, _, hC, (by simpa using q0), (by simpa using q1), (by simpa using q2), (by simpa using q3), (by simpa using q4), (fun _ => rfl), (by simpa using q6), (by simpa using q7), (fun _ => rfl), (by simpa using q9), (by simpa using q10), (by simpa using q11), (by simpa using q12), rfl⟩
              · have l8 := hdep _ rfl { on := 8, ground := .data } (by simp) (by kernel_rfl)
                obtain rfl := q8 l8
                have l5 := hdep _ rfl { on := 5, ground := .guard } (by simp) (by kernel_rfl)
                obtain rfl := q5 l5
                refine wpOp_guardK rfl (by rfl) fun Kk hK => ?_
                go_simp
                refine (nullNodes_any w' b1 _ d1 _ _ d2 (g.put mi (bareN 2)) (H7.out.1.keep hC.kp) (put_reach H.out.2.1 mi 2)).mono ?_
                rintro e wz ⟨rd, kd, rfl, hf, hz⟩
                exact hK _ _ ⟨_, _, _, _, _, _, _, _, _, _, _, _, _, hC.tr hz, (by simpa using q0), (fun h => by obtain ⟨ra, ka, e0, p0⟩ := q1 (by simpa using h); exact ⟨ra, ka, e0, p0.keep hz.kp⟩), (by simpa using q2), (fun h => by obtain ⟨rb, kb, e0, p0⟩ := q3 (by simpa using h); exact ⟨rb, kb, e0, p0.keep hz.kp⟩), (by simpa using q4), (fun _ => rfl), (by simpa using q6), (fun h => by obtain ⟨rc, kc, e0, p0⟩ := q7 (by simpa using h); exact ⟨rc, kc, e0, p0.keep hz.kp⟩), (fun _ => rfl), (fun _ => ⟨rd, kd, rfl, (ownInts_read hf.own).1⟩), (by simpa using q10), (by simpa using q11), (by simpa using q12), rfl⟩
              · have l7 := hdep _ rfl { on := 7, ground := .data } (by simp) (by kernel_rfl)
                obtain ⟨rc, kc, rfl, p7⟩ := q7 l7
                have l9 := hdep _ rfl { on := 9, ground := .data } (by simp) (by kernel_rfl)
                obtain ⟨rd, kd, rfl, p9⟩ := q9 l9
                have l5 := hdep _ rfl { on := 5, ground := .guard } (by simp) (by kernel_rfl)
                obtain rfl := q5 l5
                refine wpOp_guardK rfl (by rfl) fun Kk hK => ?_
                have hp := sameInts_any w' rc rd _ kc _ kd (nodesN g) (nodesN (g.put mi (bareN 2))) rfl rfl (nodesN_le g) p7 p9
                rw [decide_eq_true H7.out.2.2.2.2.2.symm] at hp
                go_simp
                refine (hp).mono ?_
                rintro e wz ⟨rfl, hz⟩
                exact hK _ _ ⟨_, _, _, _, _, _, _, _, _, _, _, _, _, hC.tr hz, (by simpa using q0), (fun h => by obtain ⟨ra, ka, e0, p0⟩ := q1 (by simpa using h); exact ⟨ra, ka, e0, p0.keep hz.kp⟩), (by simpa using q2), (fun h => by obtain ⟨rb, kb, e0, p0⟩ := q3 (by simpa using h); exact ⟨rb, kb, e0, p0.keep hz.kp⟩), (by simpa using q4), (fun _ => rfl), (by simpa using q6), (fun _ => ⟨rc, kc, rfl, (p7.keep hz.kp)⟩), (by simpa using q8), (fun _ => ⟨rd, kd, rfl, (p9.keep hz.kp)⟩), (fun _ => rfl), (by simpa using q11), (by simpa using q12), rfl⟩
              · have l5 := hdep _ rfl { on := 5, ground := .data } (by simp) (by kernel_rfl)
                obtain rfl := q5 l5
                have l10 := hdep _ rfl { on := 10, ground := .data } (by simp) (by kernel_rfl)
                obtain rfl := q10 l10
                refine wpOp_atK rfl rfl fun Kk hK => ?_
                go_simp
                exact hK _ _ ⟨_, _, _, _, _, _, _, _, _, _, _, _, _, hC, (by simpa using q0), (by simpa using q1), (by simpa using q2), (by simpa using q3), (by simpa using q4), (fun _ => rfl), (by simpa using q6), (by simpa using q7), (by simpa using q8), (by simpa using q9), (fun _ => rfl), (fun _ => rfl), (by simpa using q12), rfl⟩
              · have l11 := hdep _ rfl { on := 11, ground := .data } (by simp) (by kernel_rfl)
                obtain rfl := q11 l11
                refine wpOp_atK rfl rfl fun Kk hK => ?_
                go_simp
                exact hK _ _ ⟨_, _, _, _, _, _, _, _, _, _, _, _, _, hC, (by simpa using q0), (by simpa using q1), (by simpa using q2), (by simpa using q3), (by simpa using q4), (by simpa using q5), (by simpa using q6), (by simpa using q7), (by simpa using q8), (by simpa using q9), (by simpa using q10), (fun _ => rfl), (fun _ => rfl), rfl⟩
            case hdone =>
              rintro l a' w' ⟨u93, u94, u95, u96, u97, u98, u99, u100, u101, u102, u103, u104, u4, hC, q0, q1, q2, q3, q4, q5, q6, q7, q8, q9, q10, q11, q12, rfl⟩ hall
              obtain rfl := q12 (hall 12 (by decide))
              have HE := Lib.hid hC
              clear hC q0 q1 q2 q3 q4 q5 q6 q7 q8 q9 q10 q11 q12 hall
              dsimp only
              go_wp2_with fail
              go_ret
              exact ⟨rfl, H7.out.2.2.2.1.tr HE.out⟩
        · have b5 : (kk == 5) = false := by simp [hk5]
          have b4 : (kk == 4) = false := by simp; omega
          have b3 : (kk == 3) = false := by simp; omega
          have b2 : (kk == 2) = false := by simp; omega
          go_wp2_with fail
          go_ret
          exact ⟨rfl, H5.out.2.2.2.2.2.1⟩
end Go.Proofs.Ytibgfgfmljhimaa

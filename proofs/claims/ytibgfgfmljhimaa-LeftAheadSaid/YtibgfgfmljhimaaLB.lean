/-
  Layer 12: a rule's body by itself; a grammar's rules get another one's names.
  Conditions: the grammar is right and reads as data; it is small.
-/
import Derived.Test.YtibgfgfmljhimaaKB4
import Derived.Test.YtibgfgfmljhimaaNuC
import Derived.Test.YtibgfgfmljhimaaGRight
set_option linter.unusedVariables false
set_option linter.unusedSimpArgs false
set_option linter.unnecessarySimpa false
namespace Go.Proofs.Ytibgfgfmljhimaa
open Go.RowKit Go.MapKept Go.Shelf

set_option maxRecDepth 100000 in
set_option maxHeartbeats 8000000 in
theorem body12_any (w : World) (a1 : Option Addr) (n1 c1 : Nat) (a2 : Option Addr) (n2 c2 : Nat) (g : Gr) (hg : GramAt w a1 n1 c1 a2 n2 c2 g) (hr : rightB g = true) (i : Nat) (hi : i < g.rules.length) (hn : n2 ≤ 300) (hk3 : ∀ x ∈ g.nodes, x.kids.length ≤ 300) :
    Calls Try.prog 64 #[.agg #[.slice a1 n1 c1, .slice a2 n2 c2], .int .i64 i] w (NewRows w (bodyOf g g.rules[i].body)) := by
  obtain ⟨q, hq, hqn⟩ := right_body hr hi
  obtain ⟨t, ht, htab, -⟩ := right_tab hr
  obtain ⟨z, hh, hz0, hz1, -, -, hz2⟩ := right_aft ht hqn
  have hsz : sizeG g q = (z : Int) := by have := (size_aft hr hz2).1; rw [this]; congr 1; omega
  have hqz : q + z ≤ g.nodes.length := (size_aft hr hz2).2.2
  have hbody : bodyOf g g.rules[i].body = movedL ((g.nodes.drop q).take z) (-(q : Int)) := by
    rw [hq]
    unfold bodyOf
    rw [hsz]; simp
  rw [hbody]
  obtain ⟨b1, o1, rfl, y0, y1⟩ := hg.rules i hi
  rw [hq] at y1
  have hzp : 1 ≤ z := hz1
  have hin1 : i < n1 := by rw [hg.e1]; exact hi
  have hqz2 : q + z ≤ n2 := by rw [hg.e2]; exact hqz
  obtain ⟨b2, o2, _, _, _, rfl, -⟩ := hg.nodes q hqn
  have hle2 := hg.le2
  have hcap2 : c2 ≤ 9223372036854775807 := by have := hg.cap2; simp only [maxLen] at this; omega
  obtain ⟨ns, hns⟩ : ∃ ns, ns = (g.nodes.drop q).take z := ⟨_, rfl⟩
  have hnl : ns.length = z := by rw [hns, List.length_take, List.length_drop]; omega
  have hnodes : Nodes w (some ⟨b2, o2 + q * 9, none⟩) ns := by
    intro j hj
    have hj' : q + j < g.nodes.length := by omega
    obtain ⟨b', o', ak, nk, ck, h1, h2⟩ := hg.nodes (q + j) hj'
    cases h1
    refine ⟨b2, o2 + q * 9, ak, nk, ck, rfl, ?_⟩
    have e1 : o2 + q * 9 + j * 9 = o2 + (q + j) * 9 := by rw [Nat.add_mul]; omega
    have e2 : ns[j] = g.nodes[q + j] := by simp [hns]
    rw [e1, e2]
    exact h2
  rw [← hns]
  have hsub : ∀ x ∈ ns, x ∈ g.nodes := fun x hx => by rw [hns] at hx; exact List.mem_of_mem_drop (List.mem_of_mem_take hx)
  have hkb : ∀ x ∈ ns, x.kids.length ≤ 3000 ∧ ∀ v ∈ x.kids, 0 ≤ v ∧ v ≤ 300 := fun x hx => by
    obtain ⟨m, hm, rfl⟩ := List.mem_iff_getElem.1 (hsub x hx)
    refine ⟨by have := hk3 _ (List.getElem_mem hm); omega, fun v hv => ?_⟩
    have := right_kids hr hm v hv
    have := hg.e2
    omega
  have HH := Lib.hid (And.intro hg (And.intro hsz (And.intro hnl (And.intro hnodes hkb))))
  have hb1 := World.block_lt_of_cell? _ _ y1
  simp only at hb1
  clear y0
  clear hg hr hi hk3 hqn ht htab hz0 hz1 hz2 hsz hqz hbody hq hnl hnodes hkb hsub hns
  go_enter Try.func64, Try.ntmps64
  obtain ⟨x0, x1⟩ := cells2 (heap_alloc_same w (.cells #[.slice (some ⟨b1, o1, none⟩) n1 c1, .slice (some ⟨b2, o2, none⟩) n2 c2] 25))
  have hcA := (Chg.refl [] w).alloc (.cells #[.slice (some ⟨b1, o1, none⟩) n1 c1, .slice (some ⟨b2, o2, none⟩) n2 c2] 25)
  go_wp2_with fail
  clear y1 hb1
  obtain ⟨w0, e0⟩ : ∃ w0, w0 = w.alloc (.cells #[.slice (some ⟨b1, o1, none⟩) n1 c1, .slice (some ⟨b2, o2, none⟩) n2 c2] 25) := ⟨_, rfl⟩
  rw [← e0] at x0 x1 hcA ⊢
  have hbx0 : w0.heap[w.heap.size]? = some (.cells #[.slice (some ⟨b1, o1, none⟩) n1 c1, .slice (some ⟨b2, o2, none⟩) n2 c2] 25 (0, 0)) := by rw [e0]; exact heap_alloc_same _ _
  have HA := Lib.hid hcA
  have HX := Lib.hid hbx0
  clear e0 hcA hbx0 x0 x1
  have hz300 : z ≤ 300 := by omega
  have hwr : IntKind.i64.wrap ((q : Int) + z) = q + z := by rw [IntKind.wrap_i64]; omega
  have fz1 : (0 : Int) ≤ (q : Int) + z ∧ (q : Int) + z ≤ c2 := by omega
  have fz2 : (q : Int) + z ≤ c2 := by omega
  have fz4 : ¬ c2 = q := by omega
  have fz5 : ((q : Int) + z).toNat = q + z := by omega
  have fz6 : q ≤ q + z := by omega
  refine wp_region_inv (by kernel_rfl) (by kernel_rfl) (fun l a' w' => ∃ u15 u16 u17 u18 u19 u20 u21 u22 u23 u24 u6, Chg [] w0 w' ∧ (l 0 = true → u15 = .pointer (some ⟨w.heap.size, 1, none⟩)) ∧ (l 1 = true → u16 = .slice (some ⟨b2, o2, none⟩) n2 c2) ∧ (l 2 = true → u17 = .int .i64 q) ∧ (l 3 = true → u18 = .int .i64 q) ∧ (l 4 = true → u19 = .agg #[.slice (some ⟨b1, o1, none⟩) n1 c1, .slice (some ⟨b2, o2, none⟩) n2 c2]) ∧ (l 5 = true → u20 = .int .i64 q) ∧ (l 6 = true → u21 = .int .i64 z) ∧ (l 7 = true → u22 = .int .i64 ((q : Int) + z)) ∧ (l 8 = true → u23 = .slice (some ⟨b2, o2 + q * 9, none⟩) z (c2 - q)) ∧ (l 9 = true → ∃ rb rd L1, u24 = .slice rb ns.length rd ∧ (L1.map (·.1) = ns ∧ OwnN w0.heap.size w' rb rd L1)) ∧ (l 10 = true → ∃ rb rd L1, u6 = .slice rb ns.length rd ∧ (L1.map (·.1) = ns ∧ OwnN w0.heap.size w' rb rd L1)) ∧ a' = { tmps := #[.agg #[.slice (some ⟨b1, o1, none⟩) n1 c1, .slice (some ⟨b2, o2, none⟩) n2 c2], .int .i64 i, .pointer (some ⟨w.heap.size, 0, none⟩), undef, .slice none 0 0, .int .i64 q, u6, undef, undef, .pointer (some ⟨w.heap.size, 0, none⟩), .slice (some ⟨b1, o1, none⟩) n1 c1, .int .i64 i, .pointer (some ⟨b1, o1 + i * 2, none⟩), .pointer (some ⟨b1, o1 + i * 2 + 1, none⟩), .int .i64 q, u15, u16, u17, u18, u19, u20, u21, u22, u23, u24, undef, undef, undef, undef, undef, undef, undef, undef, undef, undef, undef, undef, undef, undef, undef, undef, undef, undef, undef, undef, undef, undef, undef, undef, undef, undef, undef, undef, undef, undef, undef, undef, undef, undef], defers := [] }) ?h0 ?hstep ?hdone
  case h0 => exact ⟨_, _, _, _, _, _, _, _, _, _, _, (Chg.refl _ _).drew, (fun h => by cases h), (fun h => by cases h), (fun h => by cases h), (fun h => by cases h), (fun h => by cases h), (fun h => by cases h), (fun h => by cases h), (fun h => by cases h), (fun h => by cases h), (fun h => by cases h), (fun h => by cases h), rfl⟩
  case hstep =>
    rintro l a' w' ⟨u15, u16, u17, u18, u19, u20, u21, u22, u23, u24, u6, hC, q0, q1, q2, q3, q4, q5, q6, q7, q8, q9, q10, rfl⟩ j hj hlj hdep
    have hjN : j < 11 := hj
    obtain ⟨x0, x1⟩ := cells2 (hC.heap HX.out (by simp))
    rcases (show j = 0 ∨ j = 1 ∨ j = 2 ∨ j = 3 ∨ j = 4 ∨ j = 5 ∨ j = 6 ∨ j = 7 ∨ j = 8 ∨ j = 9 ∨ j = 10 by omega) with rfl | rfl | rfl | rfl | rfl | rfl | rfl | rfl | rfl | rfl | rfl
    · refine wpOp_atK rfl rfl fun Kk hK => ?_
      go_simp
      exact hK _ _ ⟨_, _, _, _, _, _, _, _, _, _, _, hC, (fun _ => rfl), (by simpa using q1), (by simpa using q2), (by simpa using q3), (by simpa using q4), (by simpa using q5), (by simpa using q6), (by simpa using q7), (by simpa using q8), (by simpa using q9), (by simpa using q10), rfl⟩
    · have l0 := hdep _ rfl { on := 0, ground := .data } (by simp) (by kernel_rfl)
      obtain rfl := q0 l0
      refine wpOp_atK rfl rfl fun Kk hK => ?_
      go_simp
      exact hK _ _ ⟨_, _, _, _, _, _, _, _, _, _, _, hC, (fun _ => rfl), (fun _ => rfl), (by simpa using q2), (by simpa using q3), (by simpa using q4), (by simpa using q5), (by simpa using q6), (by simpa using q7), (by simpa using q8), (by simpa using q9), (by simpa using q10), rfl⟩
    · refine wpOp_atK rfl rfl fun Kk hK => ?_
      go_simp
      exact hK _ _ ⟨_, _, _, _, _, _, _, _, _, _, _, hC, (by simpa using q0), (by simpa using q1), (fun _ => rfl), (by simpa using q3), (by simpa using q4), (by simpa using q5), (by simpa using q6), (by simpa using q7), (by simpa using q8), (by simpa using q9), (by simpa using q10), rfl⟩
    · refine wpOp_atK rfl rfl fun Kk hK => ?_
      go_simp
      exact hK _ _ ⟨_, _, _, _, _, _, _, _, _, _, _, hC, (by simpa using q0), (by simpa using q1), (by simpa using q2), (fun _ => rfl), (by simpa using q4), (by simpa using q5), (by simpa using q6), (by simpa using q7), (by simpa using q8), (by simpa using q9), (by simpa using q10), rfl⟩
    · refine wpOp_atK rfl rfl fun Kk hK => ?_
      go_simp
      exact hK _ _ ⟨_, _, _, _, _, _, _, _, _, _, _, hC, (by simpa using q0), (by simpa using q1), (by simpa using q2), (by simpa using q3), (fun _ => rfl), (by simpa using q5), (by simpa using q6), (by simpa using q7), (by simpa using q8), (by simpa using q9), (by simpa using q10), rfl⟩
    · refine wpOp_atK rfl rfl fun Kk hK => ?_
      go_simp
      exact hK _ _ ⟨_, _, _, _, _, _, _, _, _, _, _, hC, (by simpa using q0), (by simpa using q1), (by simpa using q2), (by simpa using q3), (by simpa using q4), (fun _ => rfl), (by simpa using q6), (by simpa using q7), (by simpa using q8), (by simpa using q9), (by simpa using q10), rfl⟩
    · have l4 := hdep _ rfl { on := 4, ground := .data } (by simp) (by kernel_rfl)
      obtain rfl := q4 l4
      have l5 := hdep _ rfl { on := 5, ground := .data } (by simp) (by kernel_rfl)
      obtain rfl := q5 l5
      refine wpOp_atK rfl rfl fun Kk hK => ?_
      have hp := Size_any w' (some ⟨b1, o1, none⟩) n1 c1 (some ⟨b2, o2, none⟩) n2 c2 g q (HH.out.1.keep (HA.out.tr hC).kp)
      rw [HH.out.2.1] at hp
      go_simp
      refine (hp).mono ?_
      rintro e wz ⟨rfl, hz⟩
      exact hK _ _ ⟨_, _, _, _, _, _, _, _, _, _, _, hC.tr hz, (by simpa using q0), (by simpa using q1), (by simpa using q2), (by simpa using q3), (fun _ => rfl), (fun _ => rfl), (fun _ => rfl), (by simpa using q7), (by simpa using q8), (fun h => by obtain ⟨rb, rd, L1, e0, p0⟩ := q9 (by simpa using h); exact ⟨rb, rd, L1, e0, ⟨p0.1, p0.2.chg0 hz⟩⟩), (fun h => by obtain ⟨rb, rd, L1, e0, p0⟩ := q10 (by simpa using h); exact ⟨rb, rd, L1, e0, ⟨p0.1, p0.2.chg0 hz⟩⟩), rfl⟩
    · have l3 := hdep _ rfl { on := 3, ground := .data } (by simp) (by kernel_rfl)
      obtain rfl := q3 l3
      have l6 := hdep _ rfl { on := 6, ground := .data } (by simp) (by kernel_rfl)
      obtain rfl := q6 l6
      refine wpOp_atK rfl rfl fun Kk hK => ?_
      go_simp
      try rw [hwr]
      exact hK _ _ ⟨_, _, _, _, _, _, _, _, _, _, _, hC, (by simpa using q0), (by simpa using q1), (by simpa using q2), (fun _ => rfl), (by simpa using q4), (by simpa using q5), (fun _ => rfl), (fun _ => rfl), (by simpa using q8), (by simpa using q9), (by simpa using q10), rfl⟩
    · have l1 := hdep _ rfl { on := 1, ground := .data } (by simp) (by kernel_rfl)
      obtain rfl := q1 l1
      have l2 := hdep _ rfl { on := 2, ground := .data } (by simp) (by kernel_rfl)
      obtain rfl := q2 l2
      have l7 := hdep _ rfl { on := 7, ground := .data } (by simp) (by kernel_rfl)
      obtain rfl := q7 l7
      refine wpOp_atK rfl rfl fun Kk hK => ?_
      go_simp
      exact hK _ _ ⟨_, _, _, _, _, _, _, _, _, _, _, hC, (by simpa using q0), (fun _ => rfl), (fun _ => rfl), (by simpa using q3), (by simpa using q4), (by simpa using q5), (by simpa using q6), (fun _ => rfl), (fun _ => rfl), (by simpa using q9), (by simpa using q10), rfl⟩
    · have l8 := hdep _ rfl { on := 8, ground := .data } (by simp) (by kernel_rfl)
      obtain rfl := q8 l8
      refine wpOp_atK rfl rfl fun Kk hK => ?_
      go_simp
      refine (CopyNodesF_any w' (some ⟨b2, o2 + q * 9, none⟩) z (c2 - q) ns HH.out.2.2.1.symm (by omega) (HH.out.2.2.2.1.keep (HA.out.tr hC).kp) (fun x hx => (HH.out.2.2.2.2 x hx).1)).mono ?_
      rintro e wz ⟨rb, rd, L1, rfl, hL1, hO1, hz⟩
      exact hK _ _ ⟨_, _, _, _, _, _, _, _, _, _, _, hC.tr hz, (by simpa using q0), (by simpa using q1), (by simpa using q2), (by simpa using q3), (by simpa using q4), (by simpa using q5), (by simpa using q6), (by simpa using q7), (fun _ => rfl), (fun _ => ⟨rb, rd, L1, rfl, ⟨hL1, hO1.ownN.below hC.size⟩⟩), (fun h => by obtain ⟨rb, rd, L1, e0, p0⟩ := q10 (by simpa using h); exact ⟨rb, rd, L1, e0, ⟨p0.1, p0.2.chg0 hz⟩⟩), rfl⟩
    · have l9 := hdep _ rfl { on := 9, ground := .data } (by simp) (by kernel_rfl)
      obtain ⟨rb, rd, L1, rfl, p9⟩ := q9 l9
      refine wpOp_atK rfl rfl fun Kk hK => ?_
      go_simp
      exact hK _ _ ⟨_, _, _, _, _, _, _, _, _, _, _, hC, (by simpa using q0), (by simpa using q1), (by simpa using q2), (by simpa using q3), (by simpa using q4), (by simpa using q5), (by simpa using q6), (by simpa using q7), (by simpa using q8), (fun _ => ⟨rb, rd, L1, rfl, p9⟩), (fun _ => ⟨rb, rd, L1, rfl, p9⟩), rfl⟩
  case hdone =>
    rintro l a' w' ⟨u15, u16, u17, u18, u19, u20, u21, u22, u23, u24, u6, hC, q0, q1, q2, q3, q4, q5, q6, q7, q8, q9, q10, rfl⟩ hall
    obtain ⟨b, d, L1, rfl, hL1, hO1⟩ := q10 (hall 10 (by decide))
    clear q0 q1 q2 q3 q4 q5 q6 q7 q8 q9 q10 hall
    have hnl := HH.out.2.2.1
    rw [hnl]
    have HE := Lib.hid (And.intro hL1 (And.intro hO1 (HA.out.tr hC)))
    clear hL1 hO1 hC hnl
    go_wp2_with fail
    go_loopg [7] z (fun dd iv wr => ∃ i : Nat, dd = z - i ∧ i ≤ z ∧ iv = .int .i64 i ∧ Hid (∃ L, MovedTo ns (-(q : Int)) i 0 L ∧ OwnN w0.heap.size wr b d L ∧ Chg [] w wr))
    case atStart => exact ⟨0, rfl, Nat.zero_le _, rfl, Lib.hid ⟨L1, movedTo_start HE.out.1, HE.out.2.1, HE.out.2.2⟩⟩
    case round =>
      obtain ⟨i, rfl, hi, rfl, hin⟩ := hrel
      obtain ⟨wq, rfl⟩ : ∃ wq, wq = wr := ⟨_, rfl⟩
      by_cases hlt : i < z
      · have hil : i < ns.length := by have := HH.out.2.2.1; omega
        obtain ⟨kl, hkl⟩ : ∃ kl, kl = ns[i].kids.length := ⟨_, rfl⟩
        have hk3 : kl ≤ 3000 := by rw [hkl]; exact (HH.out.2.2.2.2 _ (List.getElem_mem hil)).1
        have HK := Lib.hid (⟨hil, hkl⟩ : ∃ h : i < ns.length, kl = ns[i].kids.length)
        clear hil hkl
        go_wp2_with fail
        go_loopg [8] kl (fun dd iv wr => ∃ k : Nat, dd = kl - k ∧ k ≤ kl ∧ iv = .int .i64 k ∧ Hid (∃ L, MovedTo ns (-(q : Int)) i k L ∧ OwnN w0.heap.size wr b d L ∧ Chg [] w wr))
        case atStart => exact ⟨0, rfl, Nat.zero_le _, rfl, hin⟩
        case round =>
          obtain ⟨k, rfl, hkk, rfl, hin2⟩ := hrel
          obtain ⟨wr, rfl⟩ : ∃ wz, wz = wr := ⟨_, rfl⟩
          obtain ⟨L, hmv, hown, hcw⟩ := hin2.out
          obtain ⟨hil, hkq⟩ := HK.out
          have hiL : i < L.length := by have := hmv.1; omega
          have hnow := movedTo_now hil hiL hmv
          have hlen : L[i].1.kids.length = kl := by rw [hnow, part_len, ← hkq]
          obtain ⟨G, rfl, hBG, _, hcells, _⟩ := hown.at hiL
          have h8 : wr.cell? ⟨G, i * 9 + 8, none⟩ = some (.slice L[i].2.1 kl L[i].2.2) := by
            rw [hcells 8 (by decide), ← hlen]; rfl
          have hG := World.block_lt_of_cell? _ _ h8
          simp only at hG
          by_cases hkl : k < kl
          · have hkx : k < ns[i].kids.length := by omega
            obtain ⟨K, hK, hBK, hck, hfk, hput⟩ := hown.kidPut hiL (k := k) (by rw [hlen]; exact hkl)
            have hv : L[i].1.kids[k]'(by rw [hlen]; exact hkl) = ns[i].kids[k] := by
              have := part_at ns[i] (-(q : Int)) hkx (by rw [part_len]; exact hkx)
              simp only [hnow]
              exact this
            rw [hv] at hck
            rw [hK] at h8
            obtain ⟨v, hz⟩ : ∃ v, v = ns[i].kids[k] := ⟨_, rfl⟩
            obtain ⟨hz1, hz2⟩ := (HH.out.2.2.2.2 _ (List.getElem_mem hil)).2 _ (List.getElem_mem hkx)
            rw [← hz] at hck hz1 hz2
            have hput2 : ∃ L', MovedTo ns (-(q : Int)) i (k + 1) L' ∧ OwnN w0.heap.size (wr.setCell ⟨K, k, none⟩ (.int .i64 (v - q))) (some ⟨G, 0, none⟩) d L' ∧ Chg [] w (wr.setCell ⟨K, k, none⟩ (.int .i64 (v - q))) := by
              obtain ⟨p1, p2⟩ := hput (v - q)
              refine ⟨_, ?_, p1, hcw.trans p2 (fun j hj => .inr (by have := HA.out.size; simp at hj; omega))⟩
              rw [hz]
              have h9 := movedTo_kid hil hiL hmv hkx
              rw [Int.sub_eq_add_neg]
              exact h9
            have HR := Lib.hid hput2
            obtain ⟨lc, hlc⟩ : ∃ lc, lc = L[i].2.2 := ⟨_, rfl⟩
            rw [← hlc] at h8
            clear hmv hcw hput hput2 hz hkq hkx hiL hnow hlen hcells hv hK hlc hown hBK hil
            go_wp2_with fail
            go_region
            all_goals go_wp2_with fail
            all_goals go_roundg (kl - (k + 1))
            case measure => omega
            case rel =>
              obtain ⟨L', q1, q2, q3⟩ := HR.out
              exact ⟨k + 1, rfl, by omega, by go_num, Lib.hid ⟨L', q1, q2.chg0 ((Chg.refl [] _).drew), q3.drew⟩⟩
          · obtain rfl : k = kl := by omega
            have HR := Lib.hid (And.intro hmv (And.intro hcw hown))
            obtain ⟨lc, hlc⟩ : ∃ lc, lc = L[i].2.2 := ⟨_, rfl⟩
            obtain ⟨la, hla⟩ : ∃ la, la = L[i].2.1 := ⟨_, rfl⟩
            rw [← hlc, ← hla] at h8
            clear hmv hcw hnow hlen hcells hlc hla hown hkq hil hiL
            go_wp2_with fail
            go_roundg (z - (i + 1))
            case measure => omega
            case rel =>
              obtain ⟨hmv, hcw, hown⟩ := HR.out
              exact ⟨i + 1, rfl, by omega, by go_num, Lib.hid ⟨L, movedTo_next (HK.out.elim fun h _ => h) hmv (by obtain ⟨_, h⟩ := HK.out; omega), hown, hcw⟩⟩
      · obtain rfl : i = z := by omega
        go_wp2_with fail
        go_ret
        obtain ⟨L, hmv, hown, hcw⟩ := hin.out
        have hnl := HH.out.2.2.1
        rw [← hnl] at hmv
        refine ⟨b, d, L, ?_, movedTo_end hmv, hown.below HA.out.size, hcw⟩
        rw [movedL_len, hnl]; rfl

set_option maxRecDepth 100000 in
set_option maxHeartbeats 4000000 in
theorem named12_any (w : World) (B : Nat) (b1 : Option Addr) (d1 : Nat) (b2 : Option Addr) (m2 d2 : Nat) (xr : List Rl) (a1 : Option Addr) (n1 c1 : Nat) (a2 : Option Addr) (n2 c2 : Nat) (gr : List Rl) (hx : FreshRules B w b1 d1 xr) (hg : Rules w a1 gr) (hn : n1 = gr.length) (hl : xr.length = gr.length) (hs : n1 ≤ 300)
    (hB : ∀ i b o, a1 = some ⟨b, o, none⟩ → i < gr.length → b < B) :
    Calls Try.prog 65 #[.agg #[.slice b1 xr.length d1, .slice b2 m2 d2], .agg #[.slice a1 n1 c1, .slice a2 n2 c2]] w fun e w' =>
      e = .returned (.agg #[.slice b1 xr.length d1, .slice b2 m2 d2]) ∧ FreshRules B w' b1 d1 (wrapR gr (xr.map (·.body))) ∧ Chg (Value.slice b1 xr.length d1).ownBlock.toList w w' := by
  obtain ⟨xl, hxl⟩ : ∃ xl, xl = xr.length := ⟨_, rfl⟩
  have H := Lib.hid (And.intro hx (And.intro hg (And.intro hn (And.intro hl (And.intro hB hxl)))))
  rw [← hxl]
  have hxn : xl = n1 := by omega
  subst hxn
  clear hx hg hn hl hB hxl
  go_enter Try.func65, Try.ntmps65
  go_wp2_with fail
  have t2 := heap_alloc_lt (heap_alloc_lt (heap_alloc_same w (.cells #[.slice b1 xl d1, .slice b2 m2 d2] 25)) (.cells #[.slice a1 xl c1, .slice a2 n2 c2] 25)) (.cells #[.slice none 0 0, .slice none 0 0] 25)
  have t3 := heap_alloc_lt (heap_alloc_same (w.alloc (.cells #[.slice b1 xl d1, .slice b2 m2 d2] 25)) (.cells #[.slice a1 xl c1, .slice a2 n2 c2] 25)) (.cells #[.slice none 0 0, .slice none 0 0] 25)
  have t4 := heap_alloc_same ((w.alloc (.cells #[.slice b1 xl d1, .slice b2 m2 d2] 25)).alloc (.cells #[.slice a1 xl c1, .slice a2 n2 c2] 25)) (.cells #[.slice none 0 0, .slice none 0 0] 25)
  have hcA := (((Chg.refl [] w).alloc (.cells #[.slice b1 xl d1, .slice b2 m2 d2] 25)).alloc (.cells #[.slice a1 xl c1, .slice a2 n2 c2] 25)).alloc (.cells #[.slice none 0 0, .slice none 0 0] 25)
  simp only [World.size_alloc] at t3 t4
  obtain ⟨w3, e3⟩ : ∃ w3, w3 = ((w.alloc (.cells #[.slice b1 xl d1, .slice b2 m2 d2] 25)).alloc (.cells #[.slice a1 xl c1, .slice a2 n2 c2] 25)).alloc (.cells #[.slice none 0 0, .slice none 0 0] 25) := ⟨_, rfl⟩
  rw [← e3] at t2 t3 t4 hcA ⊢
  have HA := Lib.hid (And.intro t2 (And.intro t3 (And.intro t4 hcA)))
  clear e3 t2 t3 t4 hcA
  go_loopg [5] xl (fun d iv wr => ∃ i : Nat, d = xl - i ∧ i ≤ xl ∧ iv = .int .i64 i ∧ Hid (∃ L, NamedTo xr gr i L ∧ FreshRules B wr b1 d1 L ∧ Chg (Value.slice b1 xl d1).ownBlock.toList w3 wr))
  case atStart => exact ⟨0, rfl, Nat.zero_le _, rfl, Lib.hid ⟨xr, namedTo_start xr gr, HA.out.2.2.2.row H.out.1 (fun _ _ => by simp), Chg.refl _ _⟩⟩
  case round =>
    obtain ⟨i, rfl, hi, rfl, hin⟩ := hrel
    obtain ⟨wq, rfl⟩ : ∃ wz, wz = wr := ⟨_, rfl⟩
    obtain ⟨L, hnt, hrow, hch⟩ := hin.out
    have hRl : ∀ j ∈ (Value.slice b1 xl d1).ownBlock.toList, B ≤ j ∧ j < w.heap.size := fun j hj => by
      simp only [Option.mem_toList] at hj
      have h1 := H.out.1
      rw [FreshRules, ← H.out.2.2.2.2.2] at h1
      exact ⟨(row_beyond h1 hj).1, (row_beyond h1 hj).2.1⟩
    have t2 := hch.heap HA.out.1 (fun hm => by have := hRl _ hm; omega)
    have t3 := hch.heap HA.out.2.1 (fun hm => by have := hRl _ hm; omega)
    have t4 := hch.heap HA.out.2.2.1 (fun hm => by have := hRl _ hm; omega)
    obtain ⟨x0, x1⟩ := cells2 t2
    obtain ⟨g0, g1⟩ := cells2 t3
    by_cases hlt : i < xl
    · have hiL : i < L.length := by have := hnt.1; have := H.out.2.2.2.2.2; omega
      have hig : i < gr.length := by have := H.out.2.2.1; omega
      obtain ⟨R, rfl, hBR, _, hc, hf, hput⟩ := rules_put hrow hiL
      obtain ⟨bg, og, rfl, hgn, -⟩ := H.out.2.1 i hig
      have hbg := H.out.2.2.2.2.1 i bg og rfl hig
      have hgn2 := hch.cell (HA.out.2.2.2.cell hgn (by simp)) (fun hm => by have := (hRl _ hm).1; simp only at this; omega)
      obtain ⟨nm, hnm⟩ : ∃ nm, nm = gr[i].name := ⟨_, rfl⟩
      rw [← hnm] at hgn2
      have hput2 : ∃ L', NamedTo xr gr (i + 1) L' ∧ FreshRules B (wq.setCell ⟨R, i * 2, none⟩ (.string nm)) (some ⟨R, 0, none⟩) d1 L' ∧ Chg (Value.slice (some ⟨R, 0, none⟩) xl d1).ownBlock.toList w3 (wq.setCell ⟨R, i * 2, none⟩ (.string nm)) := by
        obtain ⟨p1, p2⟩ := hput nm
        refine ⟨_, ?_, p1, hch.trans p2 (fun j hj => .inl (by simpa [Value.ownBlock] using hj))⟩
        rw [hnm]
        exact namedTo_next hnt H.out.2.2.2.1 hiL hig
      have HR := Lib.hid hput2
      obtain ⟨v0, hv0⟩ : ∃ v0, v0 = Value.string L[i].name := ⟨_, rfl⟩
      rw [← hv0] at hc
      clear hnt hrow hch t2 t3 t4 hRl hput hput2 hgn hnm hv0
      clear hiL hig
      go_wp2_with fail
      go_region
      all_goals go_wp2_with fail
      all_goals go_roundg (xl - (i + 1))
      case measure => omega
      case rel =>
        obtain ⟨L', q1, q2, q3⟩ := HR.out
        exact ⟨i + 1, rfl, by omega, by go_num, Lib.hid ⟨L', q1, q2.drew, q3.drew⟩⟩
    · obtain rfl : i = xl := by omega
      have y0 := (cells2 t4).1
      have y1 := (cells2 t4).2
      have f0 := free_of_cells t4 0
      have f1 := free_of_cells t4 1
      have HE := Lib.hid (And.intro hnt (And.intro hrow (And.intro hch (And.intro t4 hRl))))
      clear hnt hrow hch t2 t3 t4 hRl
      go_wp2_with fail
      clear x0 x1 g0 g1 y0 y1 f0 f1
      obtain ⟨hnt, hrow, hch, t4, hRl⟩ := HE.out
      have hc := ((Chg.refl [w.heap.size + 1 + 1] wq).setCell (p := ⟨w.heap.size + 1 + 1, 0, none⟩) (.inl (by simp)) (.slice b1 i d1)).setCell (p := ⟨w.heap.size + 1 + 1, 1, none⟩) (.inl (by simp)) (.slice b2 m2 d2)
      have hz := heap_setCell_same (heap_setCell_same t4 0 (.slice b1 i d1)) 1 (.slice b2 m2 d2)
      simp at hz
      obtain ⟨y0, y1⟩ := cells2 hz
      have hTl := lt_of_block hz
      refine bodyPost_ret (v := .agg #[.slice b1 i d1, .slice b2 m2 d2]) (by simp [results, Try.results65, go_sem, y0, y1, hTl]) rfl ?_
      have hrow2 := hc.rowOf hrow (fun k hk => by simp only [List.mem_singleton] at hk; subst hk; exact .of_cells t4 (by decide))
      have hend := namedTo_end hnt H.out.2.2.2.1 (by have := H.out.2.2.1; omega)
      rw [hend] at hrow2
      refine ⟨rfl, hrow2, ?_⟩
      exact (HA.out.2.2.2.any.tr hch).trans hc (fun j hj => .inr (by simp at hj; omega))
end Go.Proofs.Ytibgfgfmljhimaa

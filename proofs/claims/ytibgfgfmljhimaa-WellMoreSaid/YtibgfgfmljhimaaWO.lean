/-
  A part of a grammar, its kids by their places in the row.
  Conditions: the grammar is right and small.
-/
import Derived.Test.YtibgfgfmljhimaaKB1
import Derived.Test.YtibgfgfmljhimaaKB4
import Derived.Test.YtibgfgfmljhimaaGFresh
import Derived.Test.YtibgfgfmljhimaaNu0
import Derived.Test.YtibgfgfmljhimaaNuC
import Derived.Test.YtibgfgfmljhimaaGRight
import Derived.Test.YtibgfgfmljhimaaGAny
import Derived.Test.YtibgfgfmljhimaaWeQ
import Derived.Test.YtibgfgfmljhimaaWeM
import Derived.Test.YtibgfgfmljhimaaGPick
import Derived.Test.YtibgfgfmljhimaaGKit
set_option linter.unusedVariables false
set_option linter.unusedSimpArgs false
set_option linter.unnecessarySimpa false
namespace Go.Proofs.Ytibgfgfmljhimaa
open Go.RowKit Go.MapKept Go.Shelf

set_option maxRecDepth 100000 in
set_option maxHeartbeats 8000000 in
theorem part15_any (w : World) (a1 : Option Addr) (n1 c1 : Nat) (a2 : Option Addr) (n2 c2 : Nat) (g : Gr) (hg : GramAt w a1 n1 c1 a2 n2 c2 g) (hr : rightB g = true) (q : Nat) (hqn : q < g.nodes.length) (hn : n2 ≤ 300) (hk3 : ∀ x ∈ g.nodes, x.kids.length ≤ 300) :
    Calls Try.prog 77 #[.agg #[.slice a1 n1 c1, .slice a2 n2 c2], .int .i64 q] w (NewRows w (bodyOf g q)) := by
  obtain ⟨t, ht, htab, -⟩ := right_tab hr
  obtain ⟨z, hh, hz0, hz1, -, -, hz2⟩ := right_aft ht hqn
  have hsz : sizeG g q = (z : Int) := by have := (size_aft hr hz2).1; rw [this]; congr 1; omega
  have hqz : q + z ≤ g.nodes.length := (size_aft hr hz2).2.2
  have hbody : bodyOf g q = movedL ((g.nodes.drop q).take z) (-(q : Int)) := by
    unfold bodyOf
    rw [hsz]; simp
  rw [hbody]
  have hzp : 1 ≤ z := hz1
  have hqz2 : q + z ≤ n2 := by rw [hg.e2]; exact hqz
  obtain ⟨b2, o2, _, _, _, rfl, -⟩ := hg.nodes q hqn
  have hle2 := hg.le2
  have hcap2 : c2 ≤ 9223372036854775807 := by have := hg.cap2; simp only [maxLen] at this; omega
  obtain ⟨ns, hns⟩ : ∃ ns, ns = (g.nodes.drop q).take z := ⟨_, rfl⟩
  have hnl : ns.length = z := by rw [hns, List.length_take, List.length_drop]; omega
  have hnodes : Nodes w (some ⟨b2, o2 + q * 9, none⟩) ns := by
    intro j hj
    have hj' : q + j < g.nodes.length := by omega
    obtain ⟨b', o', ak, nk, ck, h1, h2⟩ := hg.nodes (q + j) hj'
    cases h1
    refine ⟨b2, o2 + q * 9, ak, nk, ck, rfl, ?_⟩
    have e1 : o2 + q * 9 + j * 9 = o2 + (q + j) * 9 := by rw [Nat.add_mul]; omega
    have e2 : ns[j] = g.nodes[q + j] := by simp [hns]
    rw [e1, e2]
    exact h2
  rw [← hns]
  have hsub : ∀ x ∈ ns, x ∈ g.nodes := fun x hx => by rw [hns] at hx; exact List.mem_of_mem_drop (List.mem_of_mem_take hx)
  have hkb : ∀ x ∈ ns, x.kids.length ≤ 3000 ∧ ∀ v ∈ x.kids, 0 ≤ v ∧ v ≤ 300 := fun x hx => by
    obtain ⟨m, hm, rfl⟩ := List.mem_iff_getElem.1 (hsub x hx)
    refine ⟨by have := hk3 _ (List.getElem_mem hm); omega, fun v hv => ?_⟩
    have := right_kids hr hm v hv
    have := hg.e2
    omega
  have HH := Lib.hid (And.intro hg (And.intro hsz (And.intro hnl (And.intro hnodes hkb))))
  clear hg hr hk3 hqn ht htab hz0 hz1 hz2 hsz hqz hbody hnl hnodes hkb hsub hns
  go_enter Try.func77, Try.ntmps77
  have hcA := (Chg.refl [] w).alloc (.cells #[.slice a1 n1 c1, .slice (some ⟨b2, o2, none⟩) n2 c2] 25)
  go_wp2_with fail
  obtain ⟨w0, e0⟩ : ∃ w0, w0 = w.alloc (.cells #[.slice a1 n1 c1, .slice (some ⟨b2, o2, none⟩) n2 c2] 25) := ⟨_, rfl⟩
  rw [← e0] at hcA ⊢
  have hbx0 : w0.heap[w.heap.size]? = some (.cells #[.slice a1 n1 c1, .slice (some ⟨b2, o2, none⟩) n2 c2] 25 (0, 0)) := by rw [e0]; exact heap_alloc_same _ _
  have HA := Lib.hid hcA
  have HX := Lib.hid hbx0
  clear e0 hcA hbx0
  have hz300 : z ≤ 300 := by omega
  have hwr : IntKind.i64.wrap ((q : Int) + z) = q + z := by rw [IntKind.wrap_i64]; omega
  have fz1 : (0 : Int) ≤ (q : Int) + z ∧ (q : Int) + z ≤ c2 := by omega
  have fz2 : (q : Int) + z ≤ c2 := by omega
  have fz4 : ¬ c2 = q := by omega
  have fz5 : ((q : Int) + z).toNat = q + z := by omega
  have fz6 : q ≤ q + z := by omega
  have HS : Hid (∀ W, Chg [] w0 W → Calls Try.prog 32 #[.agg #[.slice a1 n1 c1, .slice (some ⟨b2, o2, none⟩) n2 c2], .int .i64 q] W fun e W' => e = .returned (.int .i64 z) ∧ Chg [] W W') := Lib.hid fun W hW => by
    have hp := Size_any W a1 n1 c1 (some ⟨b2, o2, none⟩) n2 c2 g q (HH.out.1.keep (HA.out.tr hW).kp)
    rw [HH.out.2.1] at hp
    exact hp
  have HN : Hid (∀ W, Chg [] w0 W → Calls Try.prog 80 #[.slice (some ⟨b2, o2 + q * 9, none⟩) z (c2 - q)] W fun e W' => ∃ rb rd, ∃ L1 : List Cp, e = .returned (.slice rb z rd) ∧ L1.map (·.1) = ns ∧ OwnN W.heap.size W' rb rd L1 ∧ Chg [] W W') := Lib.hid fun W hW => by
    have hp := CopyNodesF_any W (some ⟨b2, o2 + q * 9, none⟩) z (c2 - q) ns HH.out.2.2.1.symm (by omega) (HH.out.2.2.2.1.keep (HA.out.tr hW).kp) (fun x hx => (HH.out.2.2.2.2 x hx).1)
    refine hp.mono ?_
    rintro e W' ⟨rb, rd, L1, rfl, h1, h2, h3⟩
    exact ⟨rb, rd, L1, by rw [HH.out.2.2.1], h1, h2.ownN, h3⟩
  refine wp_region_st (by kernel_rfl) (by kernel_rfl) [8, 9, 10, 11, 12, 13, 14, 15, 16, 17, 5] (by kernel_rfl) (fun rI rV rW => match rI with | 0 => rV = .pointer (some ⟨w.heap.size, 1, none⟩) | 1 => rV = .slice (some ⟨b2, o2, none⟩) n2 c2 | 2 => rV = .int .i64 q | 3 => rV = .int .i64 q | 4 => rV = .agg #[.slice a1 n1 c1, .slice (some ⟨b2, o2, none⟩) n2 c2] | 5 => rV = .int .i64 q | 6 => rV = .int .i64 z | 7 => rV = .int .i64 ((q : Int) + z) | 8 => rV = .slice (some ⟨b2, o2 + q * 9, none⟩) z (c2 - q) | 9 => ∃ rb9 rd9, rV = .slice rb9 z rd9 ∧ ∃ L1 : List Cp, L1.map (·.1) = ns ∧ OwnN w0.heap.size rW rb9 rd9 L1 | 10 => ∃ rb9 rd9, rV = .slice rb9 z rd9 ∧ ∃ L1 : List Cp, L1.map (·.1) = ns ∧ OwnN w0.heap.size rW rb9 rd9 L1 | _ => True) ?hS2 ?hstep2 ?hdone2
  case hS2 =>
    intro rI rV rW rW' hc rP
    match rI, rP with
    | 0, rP => exact rP
    | 1, rP => exact rP
    | 2, rP => exact rP
    | 3, rP => exact rP
    | 4, rP => exact rP
    | 5, rP => exact rP
    | 6, rP => exact rP
    | 7, rP => exact rP
    | 8, rP => exact rP
    | 9, rP => exact (by obtain ⟨rb9, rd9, e9, hp⟩ := rP; exact ⟨rb9, rd9, e9, (by obtain ⟨L1, e1, o1⟩ := hp; exact ⟨L1, e1, o1.chg0 hc⟩)⟩)
    | 10, rP => exact (by obtain ⟨rb9, rd9, e9, hp⟩ := rP; exact ⟨rb9, rd9, e9, (by obtain ⟨L1, e1, o1⟩ := hp; exact ⟨L1, e1, o1.chg0 hc⟩)⟩)
    | _ + 11, _ => trivial
  case hstep2 =>
    intro rI rH us W hC hdep K hK
    have hiN : rI < 11 := rH
    simp only [actU, Act.put, List.setIfInBounds_toArray, List.set_cons_succ, List.set_cons_zero, Nat.reduceAdd] at hK ⊢
    obtain ⟨x0, x1⟩ := cells2 (hC.heap HX.out (by simp))
    rcases (show rI = 0 ∨ rI = 1 ∨ rI = 2 ∨ rI = 3 ∨ rI = 4 ∨ rI = 5 ∨ rI = 6 ∨ rI = 7 ∨ rI = 8 ∨ rI = 9 ∨ rI = 10 by omega) with rfl | rfl | rfl | rfl | rfl | rfl | rfl | rfl | rfl | rfl | rfl
    · simp only [List.getD_cons_succ, List.getD_cons_zero, List.setIfInBounds_toArray, List.set_cons_succ, List.set_cons_zero] at hK ⊢
      refine wpOp_at rfl rfl ?_
      go_simp
      exact hK _ _ _ rfl (Chg.refl _ _) rfl
    · have l0 := hdep 0 (by kernel_rfl)
      replace l0 : us 0 = .pointer (some ⟨w.heap.size, 1, none⟩) := l0
      simp only [List.getD_cons_succ, List.getD_cons_zero, List.setIfInBounds_toArray, List.set_cons_succ, List.set_cons_zero, l0] at hK ⊢
      refine wpOp_at rfl rfl ?_
      go_simp
      exact hK _ _ _ rfl (Chg.refl _ _) rfl
    · simp only [List.getD_cons_succ, List.getD_cons_zero, List.setIfInBounds_toArray, List.set_cons_succ, List.set_cons_zero] at hK ⊢
      refine wpOp_at rfl rfl ?_
      go_simp
      exact hK _ _ _ rfl (Chg.refl _ _) rfl
    · simp only [List.getD_cons_succ, List.getD_cons_zero, List.setIfInBounds_toArray, List.set_cons_succ, List.set_cons_zero] at hK ⊢
      refine wpOp_at rfl rfl ?_
      go_simp
      exact hK _ _ _ rfl (Chg.refl _ _) rfl
    · simp only [List.getD_cons_succ, List.getD_cons_zero, List.setIfInBounds_toArray, List.set_cons_succ, List.set_cons_zero] at hK ⊢
      refine wpOp_at rfl rfl ?_
      go_simp
      exact hK _ _ _ rfl (Chg.refl _ _) rfl
    · simp only [List.getD_cons_succ, List.getD_cons_zero, List.setIfInBounds_toArray, List.set_cons_succ, List.set_cons_zero] at hK ⊢
      refine wpOp_at rfl rfl ?_
      go_simp
      exact hK _ _ _ rfl (Chg.refl _ _) rfl
    · have l4 := hdep 4 (by kernel_rfl)
      replace l4 : us 4 = .agg #[.slice a1 n1 c1, .slice (some ⟨b2, o2, none⟩) n2 c2] := l4
      have l5 := hdep 5 (by kernel_rfl)
      replace l5 : us 5 = .int .i64 q := l5
      simp only [List.getD_cons_succ, List.getD_cons_zero, List.setIfInBounds_toArray, List.set_cons_succ, List.set_cons_zero, l4, l5] at hK ⊢
      refine wpOp_at rfl rfl ?_
      go_simp
      refine (HS.out W hC).mono ?_
      rintro e wz ⟨rfl, hz⟩
      exact hK _ _ _ rfl hz rfl
    · have l3 := hdep 3 (by kernel_rfl)
      replace l3 : us 3 = .int .i64 q := l3
      have l6 := hdep 6 (by kernel_rfl)
      replace l6 : us 6 = .int .i64 z := l6
      simp only [List.getD_cons_succ, List.getD_cons_zero, List.setIfInBounds_toArray, List.set_cons_succ, List.set_cons_zero, l3, l6] at hK ⊢
      refine wpOp_at rfl rfl ?_
      go_simp
      try rw [hwr]
      exact hK _ _ _ rfl (Chg.refl _ _) rfl
    · have l1 := hdep 1 (by kernel_rfl)
      replace l1 : us 1 = .slice (some ⟨b2, o2, none⟩) n2 c2 := l1
      have l2 := hdep 2 (by kernel_rfl)
      replace l2 : us 2 = .int .i64 q := l2
      have l7 := hdep 7 (by kernel_rfl)
      replace l7 : us 7 = .int .i64 ((q : Int) + z) := l7
      simp only [List.getD_cons_succ, List.getD_cons_zero, List.setIfInBounds_toArray, List.set_cons_succ, List.set_cons_zero, l1, l2, l7] at hK ⊢
      refine wpOp_at rfl rfl ?_
      go_simp
      exact hK _ _ _ rfl (Chg.refl _ _) rfl
    · have l8 := hdep 8 (by kernel_rfl)
      replace l8 : us 8 = .slice (some ⟨b2, o2 + q * 9, none⟩) z (c2 - q) := l8
      simp only [List.getD_cons_succ, List.getD_cons_zero, List.setIfInBounds_toArray, List.set_cons_succ, List.set_cons_zero, l8] at hK ⊢
      refine wpOp_at rfl rfl ?_
      go_simp
      refine (HN.out W hC).mono ?_
      rintro e wz ⟨rb9, rd9, L1, rfl, hL1, hO1, hz⟩
      exact hK _ _ _ rfl hz ⟨rb9, rd9, rfl, ⟨L1, hL1, hO1.below hC.size⟩⟩
    · have l9 := hdep 9 (by kernel_rfl)
      obtain ⟨rb9, rd9, l9, p9⟩ := l9
      simp only [List.getD_cons_succ, List.getD_cons_zero, List.setIfInBounds_toArray, List.set_cons_succ, List.set_cons_zero, l9] at hK ⊢
      refine wpOp_at rfl rfl ?_
      go_simp
      exact hK _ _ _ rfl (Chg.refl _ _) ⟨rb9, rd9, rfl, p9⟩
  case hdone2 =>
    intro us W hC hall
    have l0 := hall 0 (by decide)
    replace l0 : us 0 = .pointer (some ⟨w.heap.size, 1, none⟩) := l0
    have l1 := hall 1 (by decide)
    replace l1 : us 1 = .slice (some ⟨b2, o2, none⟩) n2 c2 := l1
    have l2 := hall 2 (by decide)
    replace l2 : us 2 = .int .i64 q := l2
    have l3 := hall 3 (by decide)
    replace l3 : us 3 = .int .i64 q := l3
    have l4 := hall 4 (by decide)
    replace l4 : us 4 = .agg #[.slice a1 n1 c1, .slice (some ⟨b2, o2, none⟩) n2 c2] := l4
    have l5 := hall 5 (by decide)
    replace l5 : us 5 = .int .i64 q := l5
    have l6 := hall 6 (by decide)
    replace l6 : us 6 = .int .i64 z := l6
    have l7 := hall 7 (by decide)
    replace l7 : us 7 = .int .i64 ((q : Int) + z) := l7
    have l8 := hall 8 (by decide)
    replace l8 : us 8 = .slice (some ⟨b2, o2 + q * 9, none⟩) z (c2 - q) := l8
    have l9 := hall 9 (by decide)
    obtain ⟨rb9, rd9, l9, p9⟩ := l9
    have l10 := hall 10 (by decide)
    obtain ⟨rb9, rd9, l10, p10⟩ := l10
    simp only [actU, Act.put, List.setIfInBounds_toArray, List.set_cons_succ, List.set_cons_zero, Nat.reduceAdd, l0, l1, l2, l3, l4, l5, l6, l7, l8, l9, l10]
    clear hall l0 l1 l2 l3 l4 l5 l6 l7 l8 l9 l10
    obtain ⟨L1, hL1, hO1⟩ := p10
    obtain ⟨b, rfl⟩ : ∃ b, b = rb9 := ⟨_, rfl⟩
    obtain ⟨d, rfl⟩ : ∃ d, d = rd9 := ⟨_, rfl⟩
    clear p9
    have HE := Lib.hid (And.intro hL1 (And.intro hO1 (HA.out.tr hC)))
    clear hL1 hO1 hC
    go_wp2_with fail
    go_loopg [6] z (fun dd iv wr => ∃ i : Nat, dd = z - i ∧ i ≤ z ∧ iv = .int .i64 i ∧ Hid (∃ L, MovedTo ns (-(q : Int)) i 0 L ∧ OwnN w0.heap.size wr b d L ∧ Chg [] w wr))
    case atStart => exact ⟨0, rfl, Nat.zero_le _, rfl, Lib.hid ⟨L1, movedTo_start HE.out.1, HE.out.2.1, HE.out.2.2⟩⟩
    case round =>
      obtain ⟨i, rfl, hi, rfl, hin⟩ := hrel
      obtain ⟨wq, rfl⟩ : ∃ wq, wq = wr := ⟨_, rfl⟩
      by_cases hlt : i < z
      · have hil : i < ns.length := by have := HH.out.2.2.1; omega
        obtain ⟨kl, hkl⟩ : ∃ kl, kl = ns[i].kids.length := ⟨_, rfl⟩
        have hk3 : kl ≤ 3000 := by rw [hkl]; exact (HH.out.2.2.2.2 _ (List.getElem_mem hil)).1
        have HK := Lib.hid (⟨hil, hkl⟩ : ∃ h : i < ns.length, kl = ns[i].kids.length)
        clear hil hkl
        go_wp2_with fail
        go_loopg [7] kl (fun dd iv wr => ∃ k : Nat, dd = kl - k ∧ k ≤ kl ∧ iv = .int .i64 k ∧ Hid (∃ L, MovedTo ns (-(q : Int)) i k L ∧ OwnN w0.heap.size wr b d L ∧ Chg [] w wr))
        case atStart => exact ⟨0, rfl, Nat.zero_le _, rfl, hin⟩
        case round =>
          obtain ⟨k, rfl, hkk, rfl, hin2⟩ := hrel
          obtain ⟨wr, rfl⟩ : ∃ wz, wz = wr := ⟨_, rfl⟩
          obtain ⟨L, hmv, hown, hcw⟩ := hin2.out
          obtain ⟨hil, hkq⟩ := HK.out
          have hiL : i < L.length := by have := hmv.1; omega
          have hnow := movedTo_now hil hiL hmv
          have hlen : L[i].1.kids.length = kl := by rw [hnow, part_len, ← hkq]
          obtain ⟨G, rfl, hBG, _, hcells, _⟩ := hown.at hiL
          have h8 : wr.cell? ⟨G, i * 9 + 8, none⟩ = some (.slice L[i].2.1 kl L[i].2.2) := by
            rw [hcells 8 (by decide), ← hlen]; rfl
          have hG := World.block_lt_of_cell? _ _ h8
          simp only at hG
          by_cases hkl : k < kl
          · have hkx : k < ns[i].kids.length := by omega
            obtain ⟨K, hK, hBK, hck, hfk, hput⟩ := hown.kidPut hiL (k := k) (by rw [hlen]; exact hkl)
            have hv : L[i].1.kids[k]'(by rw [hlen]; exact hkl) = ns[i].kids[k] := by
              have := part_at ns[i] (-(q : Int)) hkx (by rw [part_len]; exact hkx)
              simp only [hnow]
              exact this
            rw [hv] at hck
            rw [hK] at h8
            obtain ⟨v, hz⟩ : ∃ v, v = ns[i].kids[k] := ⟨_, rfl⟩
            obtain ⟨hz1, hz2⟩ := (HH.out.2.2.2.2 _ (List.getElem_mem hil)).2 _ (List.getElem_mem hkx)
            rw [← hz] at hck hz1 hz2
            have hput2 : ∃ L', MovedTo ns (-(q : Int)) i (k + 1) L' ∧ OwnN w0.heap.size (wr.setCell ⟨K, k, none⟩ (.int .i64 (v - q))) (some ⟨G, 0, none⟩) d L' ∧ Chg [] w (wr.setCell ⟨K, k, none⟩ (.int .i64 (v - q))) := by
              obtain ⟨p1, p2⟩ := hput (v - q)
              refine ⟨_, ?_, p1, hcw.trans p2 (fun j hj => .inr (by have := HA.out.size; simp at hj; omega))⟩
              rw [hz]
              have h9 := movedTo_kid hil hiL hmv hkx
              rw [Int.sub_eq_add_neg]
              exact h9
            have HR := Lib.hid hput2
            obtain ⟨lc, hlc⟩ : ∃ lc, lc = L[i].2.2 := ⟨_, rfl⟩
            rw [← hlc] at h8
            clear hmv hcw hput hput2 hz hkq hkx hiL hnow hlen hcells hv hK hlc hown hBK hil
            go_wp2_with fail
            go_region
            all_goals go_wp2_with fail
            all_goals go_roundg (kl - (k + 1))
            case measure => omega
            case rel =>
              obtain ⟨L', q1, q2, q3⟩ := HR.out
              exact ⟨k + 1, rfl, by omega, by go_num, Lib.hid ⟨L', q1, q2.chg0 ((Chg.refl [] _).drew), q3.drew⟩⟩
          · obtain rfl : k = kl := by omega
            have HR := Lib.hid (And.intro hmv (And.intro hcw hown))
            obtain ⟨lc, hlc⟩ : ∃ lc, lc = L[i].2.2 := ⟨_, rfl⟩
            obtain ⟨la, hla⟩ : ∃ la, la = L[i].2.1 := ⟨_, rfl⟩
            rw [← hlc, ← hla] at h8
            clear hmv hcw hnow hlen hcells hlc hla hown hkq hil hiL
            go_wp2_with fail
            go_roundg (z - (i + 1))
            case measure => omega
            case rel =>
              obtain ⟨hmv, hcw, hown⟩ := HR.out
              exact ⟨i + 1, rfl, by omega, by go_num, Lib.hid ⟨L, movedTo_next (HK.out.elim fun h _ => h) hmv (by obtain ⟨_, h⟩ := HK.out; omega), hown, hcw⟩⟩
      · obtain rfl : i = z := by omega
        go_wp2_with fail
        go_ret
        obtain ⟨L, hmv, hown, hcw⟩ := hin.out
        have hnl := HH.out.2.2.1
        rw [← hnl] at hmv
        refine ⟨b, d, L, ?_, movedTo_end hmv, hown.below HA.out.size, hcw⟩
        rw [movedL_len, hnl]; rfl

end Go.Proofs.Ytibgfgfmljhimaa
set_option linter.unusedVariables false
set_option linter.unusedSimpArgs false
set_option linter.unnecessarySimpa false
namespace Go.Proofs.Ytibgfgfmljhimaa
open Go.RowKit Go.MapKept Go.Shelf

theorem small_parts2 {g : Gr} (h : smallG g) : g.rules.length ≤ 300 ∧ g.nodes.length ≤ 300 ∧ ∀ x ∈ g.nodes, x.kids.length ≤ 300 := by
  unfold smallG at h
  refine ⟨by omega, by omega, fun x hx => ?_⟩
  obtain ⟨k, hk, rfl⟩ := List.getElem_of_mem hx
  have := kids_le_sum g.nodes k hk
  omega

set_option maxRecDepth 100000 in
set_option maxHeartbeats 16000000 in
theorem wellMoreLaw_any (w : World) (a1 : Option Addr) (n1 c1 : Nat) (a2 : Option Addr) (n2 c2 : Nat) (g : Gr) (hg : GramAt w a1 n1 c1 a2 n2 c2 g) (hre : Reach g) (n : Int) (hn : I64 n) :
    Calls Try.prog 17 #[.agg #[.slice a1 n1 c1, .slice a2 n2 c2], .int .i64 n] w fun e w' => e = .returned (.bool true) ∧ Chg [] w w' := by
  obtain ⟨i0, hi0, hz0, hz1, hz2⟩ := info_parts Try.infoRule
  obtain ⟨j0, hj0, hy0, hy1, hy2⟩ := info_parts Try.infoNode
  have H := Lib.hid (And.intro hg (And.intro hre (And.intro hg.e1 (And.intro hg.e2 hn))))
  clear hg hre hn
  go_enter Try.func17, Try.ntmps17
  go_wp2_with fail
  refine (awake15_any _).mono ?_
  rintro e w1 ⟨rfl, hc1⟩
  have hb1 := hc1.heap (heap_alloc_same _ _) (by simp)
  have H1 := Lib.hid (And.intro hb1 (((Chg.refl [] w).alloc _).tr0 hc1))
  clear hc1 hb1
  obtain ⟨x0, x1⟩ := cells2 H1.out.1
  go_wp2_with fail
  refine (size15_any _ a1 n1 c1 a2 n2 c2 g (H.out.1.keep H1.out.2.kp) H.out.2.1).mono ?_
  rintro e w2 ⟨m, rfl, hm1, hm2, hc2⟩
  have H2 := Lib.hid (And.intro (hc2.heap H1.out.1 (by simp)) (H1.out.2.tr hc2))
  clear hc2 x0 x1
  by_cases hm : (300 : Int) < m
  · go_wp2_with fail
    go_ret
    exact ⟨rfl, H2.out.2⟩
  · have hsm : smallG g := Classical.byContradiction fun h => hm (hm2 h)
    obtain ⟨z1, z2, z3⟩ := small_parts2 hsm
    have hn1 : n1 ≤ 300 := by have := H.out.2.2.1; omega
    have hn2 : n2 ≤ 300 := by have := H.out.2.2.2.1; omega
    have HK := Lib.hid z3
    clear hsm z1 z2 z3 hm1 hm2
    obtain ⟨x0, x1⟩ := cells2 H2.out.1
    go_wp2_with fail
    refine (Right_any _ a1 n1 c1 a2 n2 c2 g (H.out.1.keep H2.out.2.kp)).mono ?_
    rintro e w3 ⟨rfl, hc3⟩
    have H3 := Lib.hid (And.intro (hc3.heap H2.out.1 (by simp)) (H2.out.2.tr hc3))
    clear hc3 x0 x1
    obtain ⟨x0, x1⟩ := cells2 H3.out.1
    cases hr : rightB g with
    | false =>
      go_wp2_with fail
      go_ret
      exact ⟨rfl, H3.out.2⟩
    | true =>
      have HR := Lib.hid hr
      have hpos : 0 < n2 := by have := right_posW hr; have := H.out.2.2.2.1; omega
      clear hr
      obtain ⟨mi, hmi⟩ : ∃ mi : Nat, (mi : Int) = n % (n2 : Int) := ⟨(n % (n2 : Int)).toNat, by have := Int.emod_nonneg n (show (n2 : Int) ≠ 0 by omega); omega⟩
      have hml : mi < n2 := by have := Int.emod_lt_of_pos n (show (0 : Int) < n2 by omega); omega
      have hpick := fun W => pickK_any n n2 W (by omega) (by omega) H.out.2.2.2.2.1 H.out.2.2.2.2.2
      rw [← hmi] at hpick
      clear hmi
      go_wp2_with fail
      refine (hpick _).mono ?_
      clear hpick
      rintro e w4 ⟨rfl, hc4⟩
      have H4 := Lib.hid (And.intro (hc4.heap H3.out.1 (by simp)) (H3.out.2.tr hc4))
      clear hc4 x0 x1
      obtain ⟨x0, x1⟩ := cells2 H4.out.1
      go_wp2_with fail
      refine (CopyGrammarF_any _ a1 n1 c1 a2 n2 c2 g (H.out.1.keep H4.out.2.kp) hn1 hn2 HK.out).mono ?_
      rintro e w5 ⟨b1, d1, b2, d2, L, rfl, hL, hR5, hN5, hc5⟩
      rw [← H.out.2.2.1, ← H.out.2.2.2.1]
      have hLl : L.length = n2 := by have := congrArg List.length hL; rw [List.length_map] at this; rw [this, H.out.2.2.2.1]
      have hcA := (Chg.refl [] w5).alloc (.cells #[.slice b1 n1 d1, .slice b2 n2 d2] 25)
      have hwg : w.heap.size < w4.heap.size := lt_of_block H4.out.1
      have hw45 := hc5.size
      have hMA : MakeG w4 w5.heap.size w.heap.size (.slice a1 n1 c1) (.slice a2 n2 c2) b1 n1 d1 b2 n2 d2 g.rules L (w5.alloc (.cells #[.slice b1 n1 d1, .slice b2 n2 d2] 25)) :=
        ⟨H.out.2.2.1, hLl.symm, heap_alloc_same _ _, (hc5.tr hcA).heap H4.out.1 (by simp), hcA.row hR5 (fun _ _ => by simp), hN5.chg0 hcA, hc5.tr hcA⟩
      have hMB := hMA.chg0 ((Chg.refl [] _).alloc (.cells #[.string ⟨#[95, 109, 111, 114, 101]⟩, .int .i64 n2] 46))
      have hrow := hMB.rules
      rw [FreshRules, ← H.out.2.2.1] at hrow
      have hnew := cells_at (w := (w5.alloc (.cells #[.slice b1 n1 d1, .slice b2 n2 d2] 25)).alloc (.cells #[.string ⟨#[95, 109, 111, 114, 101]⟩, .int .i64 n2] 46)) (heap_alloc_same _ _)
      rw [World.size_alloc] at hnew
      have h1' : ∀ u ∈ [Value.string ⟨#[95, 109, 111, 114, 101]⟩, Value.int .i64 (n2 : Int)], u.oneCell' = true := by simp [Value.oneCell']
      have h2' : n1 + 1 ≤ maxLen ∧ (n1 + 1) * 24 ≤ 140737488355328 := by simp only [maxLen]; omega
      have h3' : n2 + 1 ≤ maxLen ∧ (n2 + 1) * 96 ≤ 140737488355328 := by simp only [maxLen]; omega
      obtain ⟨t0, t1⟩ := cells2 hMA.box
      obtain ⟨g0, g1⟩ := cells2 hMA.gbox
      obtain ⟨g0', g1'⟩ := cells2 hMB.gbox
      have HA := Lib.hid (And.intro hrow (And.intro hnew (And.intro h1' (And.intro h2' (And.intro hMB.chg.size (And.intro hMB h3'))))))
      have HL := Lib.hid (And.intro hL hLl)
      clear hrow hnew h1' h2' h3' hMA hMB hL hLl hR5 hN5 hcA hc5
      go_wp2_with (first
        | (at_builtin; refine wpList_append_own_at _ rfl _ _ 22 rfl w4.heap.size 46 i0 _ 2 24 Try.underlying22 hi0 hz0 hz1 hz2 rfl (by decide) (.slice b1 n1 d1) n1 (rulesCells g.rules) rfl HA.out.1 ⟨w5.heap.size + 1, 0, none⟩ 1 1 [.string ⟨#[95, 109, 111, 114, 101]⟩, .int .i64 n2] rfl rfl HA.out.2.1 HA.out.2.2.1 HA.out.2.2.2.1.1 HA.out.2.2.2.1.2 HA.out.2.2.2.2.1 ?_; intro v' w6 hr6 hg6 hn6 hb6; obtain ⟨a5, c5, rfl⟩ := ownsRow_slice hr6; have hM := HA.out.2.2.2.2.2.1.rule (r := ⟨⟨#[95, 109, 111, 114, 101]⟩, (n2 : Int)⟩) hw45 hwg hr6 hg6; have q0 := (cells2 hM.1).1; have f0 := free_of_cells hM.1 0; have q1 := (cells2 hM.2.box).2; have q2 := (cells2 hM.2.gbox).2; have HM := Lib.hid hM.2; clear hr6 hg6 hn6 hb6 hM)
        | (at_builtin; have hcC := ((Chg.refl [] (w6.setCell ⟨w5.heap.size, 0, none⟩ (.slice a5 (n1 + 1) c5))).alloc (.cells #[.int .i64 ((n2 : Int) + 1)] 3)).alloc (.cells #[.int .i64 8, .int .u64 0, .int .u64 0, .int .u64 0, .int .u64 0, .string ⟨#[]⟩, .int .i64 0, .int .i64 0, .slice (some ⟨w6.heap.size, 0, none⟩) 1 1] 32); have hMC := HM.out.chg0 hcC; have hK := heap_alloc_lt (heap_alloc_same (w6.setCell ⟨w5.heap.size, 0, none⟩ (.slice a5 (n1 + 1) c5)) (.cells #[.int .i64 ((n2 : Int) + 1)] 3)) (.cells #[.int .i64 8, .int .u64 0, .int .u64 0, .int .u64 0, .int .u64 0, .string ⟨#[]⟩, .int .i64 0, .int .i64 0, .slice (some ⟨w6.heap.size, 0, none⟩) 1 1] 32); have hnew := cells_at (heap_alloc_same ((w6.setCell ⟨w5.heap.size, 0, none⟩ (.slice a5 (n1 + 1) c5)).alloc (.cells #[.int .i64 ((n2 : Int) + 1)] 3)) (.cells #[.int .i64 8, .int .u64 0, .int .u64 0, .int .u64 0, .int .u64 0, .string ⟨#[]⟩, .int .i64 0, .int .i64 0, .slice (some ⟨w6.heap.size, 0, none⟩) 1 1] 32)); have hsz : (w6.setCell ⟨w5.heap.size, 0, none⟩ (.slice a5 (n1 + 1) c5)).heap.size = w6.heap.size := (by simp [World.setCell]); rw [hsz] at hK; simp only [World.size_alloc, hsz] at hnew; have hrowN := hMC.nodes.nodes; rw [HL.out.2] at hrowN; have h1n : ∀ u ∈ (#[.int .i64 8, .int .u64 0, .int .u64 0, .int .u64 0, .int .u64 0, .string ⟨#[]⟩, .int .i64 0, .int .i64 0, .slice (some ⟨w6.heap.size, 0, none⟩) 1 1] : Array Value).toList, u.oneCell' = true := (by simp [Value.oneCell']); have HC := Lib.hid (And.intro hMC (And.intro hK hrowN)); have hszB := hMC.chg.size; clear hcC hMC hK;
            refine wpList_append_own_at _ rfl _ _ 23 rfl w4.heap.size 32 j0 _ 9 96 Try.underlying23 hj0 hy0 hy1 hy2 rfl (by decide) (.slice b2 n2 d2) n2 (nodesCells L) rfl hrowN ⟨w6.heap.size + 1, 0, none⟩ 1 1 (#[.int .i64 8, .int .u64 0, .int .u64 0, .int .u64 0, .int .u64 0, .string ⟨#[]⟩, .int .i64 0, .int .i64 0, .slice (some ⟨w6.heap.size, 0, none⟩) 1 1] : Array Value).toList rfl rfl hnew h1n HA.out.2.2.2.2.2.2.1 HA.out.2.2.2.2.2.2.2 hszB ?_; intro v' w9 hr9 hg9 hn9 hb9; obtain ⟨a6, c6, rfl⟩ := ownsRow_slice hr9; have hKs : w4.heap.size ≤ w6.heap.size := (by have := HM.out.chg.size; simpa [World.setCell] using this); have hMj := HC.out.1.join (M := [(starN ((n2 : Int) + 1), some ⟨w6.heap.size, 0, none⟩, 1)]) (ml := 1) hw45 hwg (by intro p hp; simp only [List.mem_singleton] at hp; subst hp; exact fresh_one hKs HC.out.2.1) (List.pairwise_singleton _ _) (by intro q hq p hp i j hi hj; simp only [List.mem_singleton] at hp; subst hp; have h1 := (row_beyond (HM.out.nodes.kids q hq) hi).2.1; have h2 : j = w6.heap.size := (by cases hj; rfl); have h3 : (w6.setCell ⟨w5.heap.size, 0, none⟩ (.slice a5 (n1 + 1) c5)).heap.size = w6.heap.size := (by simp [World.setCell]); omega) rfl (by rw [nodesCells_one]; exact hr9) hg9; have q3 := (cells2 hMj.1).2; have f3 := free_of_cells hMj.1 1; obtain ⟨q4, q5⟩ := cells2 hMj.2.gbox; have HM2 := Lib.hid hMj.2; clear hr9 hg9 hn9 hb9 hMj hKs HC hnew h1n hrowN hszB hsz))
      clear q0 f0 q1 q2 q3 f3 t0 t1 g0 g1 g0' g1' x0 x1
      obtain ⟨wE, eE⟩ : ∃ wE, wE = w9.setCell ⟨w5.heap.size, 1, none⟩ (.slice a6 (n2 + 1) c6) := ⟨_, rfl⟩
      rw [← eE] at HM2 q4 q5 ⊢
      clear eE HM HA
      refine (part15_any _ a1 n1 c1 a2 n2 c2 g (H.out.1.keep (H4.out.2.tr HM2.out.chg).kp) HR.out mi (by have := H.out.2.2.2.1; omega) hn2 HK.out).mono ?_
      rintro e wP ⟨rb, rd, M1, rfl, hM1, hO1, hcP⟩
      obtain ⟨z, hz⟩ : ∃ z, z = (bodyOf g mi).length := ⟨_, rfl⟩
      obtain ⟨ns, hns⟩ : ∃ ns, ns = bodyOf g mi := ⟨_, rfl⟩
      have hmg : mi < g.nodes.length := by have := H.out.2.2.2.1; omega
      have hng : g.nodes.length ≤ 300 := by have := H.out.2.2.2.1; omega
      obtain ⟨hz1, hz3⟩ : 1 ≤ z ∧ z ≤ 300 := by obtain ⟨z', h', p1, p2, _, _, _, p3, _⟩ := part_is HR.out hmg; omega
      have hkb : ∀ x ∈ ns, x.kids.length ≤ 3000 ∧ ∀ v ∈ x.kids, -300 ≤ v ∧ v ≤ 300 := fun x hx => by
        rw [hns] at hx
        refine ⟨?_, body_kids HR.out hng hmg hx⟩
        obtain ⟨y, hy, rfl⟩ := body_from HR.out hmg hx
        have := HK.out y hy
        simp only [Nd.shift, List.length_map]; omega
      rw [← hz]
      rw [← hns] at hM1 hz
      have HQ := Lib.hid (And.intro hz (And.intro hkb (And.intro hns (And.intro hmg hng))))
      have HP := Lib.hid (And.intro hM1 (And.intro hO1 hcP))
      clear hM1 hO1 hcP hz hns hkb hmg hng
      clear q4 q5
      go_wp2_with fail
      go_loopg [8] z (fun dd iv wr => ∃ i : Nat, dd = z - i ∧ i ≤ z ∧ iv = .int .i64 i ∧ Hid (∃ L, MovedTo ns ((n2 : Int) + 1) i 0 L ∧ OwnN wE.heap.size wr rb rd L ∧ Chg [] wE wr))
      case atStart => exact ⟨0, rfl, Nat.zero_le _, rfl, Lib.hid ⟨M1, movedTo_start HP.out.1, HP.out.2.1, HP.out.2.2⟩⟩
      case round =>
        obtain ⟨i, rfl, hi, rfl, hin⟩ := hrel
        obtain ⟨wq, rfl⟩ : ∃ wq, wq = wr := ⟨_, rfl⟩
        by_cases hlt : i < z
        · have hil : i < ns.length := by have := HQ.out.1; omega
          obtain ⟨kl, hkl⟩ : ∃ kl, kl = ns[i].kids.length := ⟨_, rfl⟩
          have hk3 : kl ≤ 3000 := by rw [hkl]; exact (HQ.out.2.1 _ (List.getElem_mem hil)).1
          have HK2 := Lib.hid (⟨hil, hkl⟩ : ∃ h : i < ns.length, kl = ns[i].kids.length)
          clear hil hkl
          go_wp2_with fail
          go_loopg [9] kl (fun dd iv wr => ∃ k : Nat, dd = kl - k ∧ k ≤ kl ∧ iv = .int .i64 k ∧ Hid (∃ L, MovedTo ns ((n2 : Int) + 1) i k L ∧ OwnN wE.heap.size wr rb rd L ∧ Chg [] wE wr))
          case atStart => exact ⟨0, rfl, Nat.zero_le _, rfl, hin⟩
          case round =>
            obtain ⟨k, rfl, hkk, rfl, hin2⟩ := hrel
            obtain ⟨wr, rfl⟩ : ∃ wz, wz = wr := ⟨_, rfl⟩
            obtain ⟨L, hmv, hown, hcw⟩ := hin2.out
            obtain ⟨hil, hkq⟩ := HK2.out
            have hiL : i < L.length := by have := hmv.1; omega
            have hnow := movedTo_now hil hiL hmv
            have hlen : L[i].1.kids.length = kl := by rw [hnow, part_len, ← hkq]
            obtain ⟨G, rfl, hBG, _, hcells, _⟩ := hown.at hiL
            have h8 : wr.cell? ⟨G, i * 9 + 8, none⟩ = some (.slice L[i].2.1 kl L[i].2.2) := by
              rw [hcells 8 (by decide), ← hlen]; rfl
            have hG := World.block_lt_of_cell? _ _ h8
            simp only at hG
            by_cases hkl : k < kl
            · have hkx : k < ns[i].kids.length := by omega
              obtain ⟨q4, q5⟩ := cells2 (hcw.heap HM2.out.gbox (by simp))
              obtain ⟨K, hK, hBK, hck, hfk, hput⟩ := hown.kidPut hiL (k := k) (by rw [hlen]; exact hkl)
              have hv : L[i].1.kids[k]'(by rw [hlen]; exact hkl) = ns[i].kids[k] := by
                have := part_at ns[i] ((n2 : Int) + 1) hkx (by rw [part_len]; exact hkx)
                simp only [hnow]
                exact this
              rw [hv] at hck
              rw [hK] at h8
              obtain ⟨v, hz⟩ : ∃ v, v = ns[i].kids[k] := ⟨_, rfl⟩
              obtain ⟨hz1, hz2⟩ := (HQ.out.2.1 _ (List.getElem_mem hil)).2 _ (List.getElem_mem hkx)
              rw [← hz] at hck hz1 hz2
              have hput2 : ∃ L', MovedTo ns ((n2 : Int) + 1) i (k + 1) L' ∧ OwnN wE.heap.size (wr.setCell ⟨K, k, none⟩ (.int .i64 (v + n2 + 1))) (some ⟨G, 0, none⟩) rd L' ∧ Chg [] wE (wr.setCell ⟨K, k, none⟩ (.int .i64 (v + n2 + 1))) := by
                obtain ⟨p1, p2⟩ := hput (v + n2 + 1)
                refine ⟨_, ?_, p1, hcw.trans p2 (fun j hj => .inr (by simp at hj; omega))⟩
                rw [hz]
                have h9 := movedTo_kid hil hiL hmv hkx
                rw [Int.add_assoc]
                exact h9
              have HR2 := Lib.hid hput2
              obtain ⟨lc, hlc⟩ : ∃ lc, lc = L[i].2.2 := ⟨_, rfl⟩
              rw [← hlc] at h8
              clear hmv hcw hput hput2 hz hkq hkx hiL hnow hlen hcells hv hK hlc hown hBK hil
              go_wp2_with fail
              go_region
              all_goals go_wp2_with fail
              all_goals go_roundg (kl - (k + 1))
              case measure => omega
              case rel =>
                obtain ⟨L', q1, q2, q3⟩ := HR2.out
                exact ⟨k + 1, rfl, by omega, by go_num, Lib.hid ⟨L', q1, q2.chg0 ((Chg.refl [] _).drew), q3.drew⟩⟩
            · obtain rfl : k = kl := by omega
              have HR2 := Lib.hid (And.intro hmv (And.intro hcw hown))
              obtain ⟨lc, hlc⟩ : ∃ lc, lc = L[i].2.2 := ⟨_, rfl⟩
              obtain ⟨la, hla⟩ : ∃ la, la = L[i].2.1 := ⟨_, rfl⟩
              rw [← hlc, ← hla] at h8
              clear hmv hcw hnow hlen hcells hlc hla hown hkq hil hiL
              go_wp2_with fail
              go_roundg (z - (i + 1))
              case measure => omega
              case rel =>
                obtain ⟨hmv, hcw, hown⟩ := HR2.out
                exact ⟨i + 1, rfl, by omega, by go_num, Lib.hid ⟨L, movedTo_next (HK2.out.elim fun h _ => h) hmv (by obtain ⟨_, h⟩ := HK2.out; omega), hown, hcw⟩⟩
        · obtain rfl : i = z := by omega
          obtain ⟨M, hmv, hown, hcw⟩ := hin.out
          rw [HQ.out.1] at hmv
          have hM := movedTo_end hmv
          have hMl : M.length = i := by have h1 := congrArg List.length hM; rw [List.length_map, movedL_len, ← HQ.out.1] at h1; exact h1
          obtain ⟨G2, rfl, hG2, hsrc⟩ := hown.src (fun h => by subst h; simp at hMl; omega)
          have hMG := HM2.out.chg0 hcw
          have hrow := hMG.nodes.nodes
          rw [← hMG.ll] at hrow
          have hl7 : (nodesCells M).length = i * 9 := by rw [nodesCells_len, hMl]
          have h2' : n2 + 1 + i ≤ maxLen ∧ (n2 + 1 + i) * 96 ≤ 140737488355328 := by simp only [maxLen]; omega
          have hbT : w4.heap.size ≤ w5.heap.size := hw45
          obtain ⟨q4, q5⟩ := cells2 hMG.box
          obtain ⟨y0, y1⟩ := cells2 hMG.gbox
          have H7 := Lib.hid (And.intro hrow (And.intro hsrc (And.intro hl7 (And.intro h2' (And.intro hMG.chg.size (And.intro hMG (And.intro hM (And.intro hown (And.intro hMl hcw)))))))))
          clear hmv hown hcw hM hMl hsrc hMG hrow hl7 h2' hin hG2
          go_wp2_with (at_builtin; refine wpList_append_own_at _ rfl _ _ 23 rfl w4.heap.size 32 j0 _ 9 96 Try.underlying23 hj0 hy0 hy1 hy2 rfl (by decide) (.slice a6 (n2 + 1) c6) (n2 + 1) _ rfl H7.out.1 ⟨G2, 0, none⟩ i rd (nodesCells M) rfl H7.out.2.2.1 H7.out.2.1 (cells_one M) H7.out.2.2.2.1.1 H7.out.2.2.2.1.2 H7.out.2.2.2.2.1 ?_; intro v' w8 hr8 hg8 hn8 hb8; obtain ⟨a8, c8, rfl⟩ := ownsRow_slice hr8; have hMj := H7.out.2.2.2.2.2.1.join (M := M) (ml := i) hw45 hwg (fun p hp => row_base (H7.out.2.2.2.2.2.2.2.1.kids p hp) HM2.out.chg.size) H7.out.2.2.2.2.2.2.2.1.apart (by intro q hq p hp i j hi hj; have h1 := (row_beyond (HM2.out.nodes.kids q hq) hi).2.1; have h2 := (row_beyond (H7.out.2.2.2.2.2.2.2.1.kids p hp) hj).1; omega) H7.out.2.2.2.2.2.2.2.2.1.symm hr8 hg8; have q3 := (cells2 hMj.1).2; have f3 := free_of_cells hMj.1 1; obtain ⟨r0, r1⟩ := cells2 hMj.2.box; obtain ⟨s0, s1⟩ := cells2 hMj.2.gbox; have HM3 := Lib.hid hMj.2; clear hr8 hg8 hn8 hb8 hMj)
          clear q3 f3 q4 q5 y0 y1
          obtain ⟨wF, eF⟩ : ∃ wF, wF = w8.setCell ⟨w5.heap.size, 1, none⟩ (.slice a8 (n2 + 1 + i) c8) := ⟨_, rfl⟩
          rw [← eF] at HM3 r0 r1 s0 s1 ⊢
          clear eF
          have hgx : GramAt wF a5 (n1 + 1) c5 a8 (n2 + 1 + i) c8 (moreG g mi) := HM3.out.gram (by simp only [moreG]; rw [H.out.2.2.2.1]; rfl) (by
            rw [List.map_append, List.map_append, HL.out.1, H7.out.2.2.2.2.2.2.1, HQ.out.2.2.1]
            simp only [moreG, List.map_cons, List.map_nil, H.out.2.2.2.1]) (more_wf HR.out HQ.out.2.2.2.2 HQ.out.2.2.2.1 H.out.1.wf)
          have hrx : Reach (moreG g mi) := more_reach HR.out HQ.out.2.2.2.2 HK.out HQ.out.2.2.2.1
          have HX := Lib.hid (And.intro hgx (And.intro hrx (H4.out.2.tr HM3.out.chg)))
          have HY := Lib.hid (And.intro HM3.out.gbox HM3.out.box)
          obtain ⟨zl, hzl⟩ : ∃ zl, zl = n2 + 1 + i := ⟨_, rfl⟩
          rw [← hzl] at HX HY r1 ⊢
          clear hgx hrx H7 HM3 HM2 HP hzl
          have hRX := Right_any wF _ _ _ _ _ _ _ HX.out.1
          cases hxr : rightB (moreG g mi) with
          | false =>
            rw [hxr] at hRX
            have HXR := Lib.hid hxr
            clear hxr
            go_wp2_with fail
            refine hRX.mono ?_
            clear hRX
            rintro e wR ⟨rfl, hcR⟩
            have HZ := Lib.hid (And.intro (hcR.heap HY.out.1 (by simp)) (HX.out.2.2.tr hcR))
            clear hcR r0 r1 s0 s1
            obtain ⟨s0, s1⟩ := cells2 HZ.out.1
            have hwhy : ¬ n1 < 32 ∨ ¬ ruleI g.rules moreS < 0 ∨ heightG g mi = 16 := Classical.byContradiction fun hn => by
              have h1 : n1 < 32 := Classical.byContradiction fun h => hn (.inl h)
              have h2 : ruleI g.rules moreS < 0 := Classical.byContradiction fun h => hn (.inr (.inl h))
              have h3 : heightG g mi ≠ 16 := fun h => hn (.inr (.inr h))
              have h4 := more_right HR.out HQ.out.2.2.2.1 (by have := H.out.2.2.1; omega) h2 h3 (by have := HQ.out.1; rw [HQ.out.2.2.1] at this; have := HQ.out.2.2.2.2; omega)
              rw [h4] at HXR
              exact absurd HXR.out (by simp)
            have h32 : n1 ≤ 32 := by have := (right_sizes HR.out).2.1; have := H.out.2.2.1; omega
            have hRu := fun W (hW : Chg [] w W) => Rule_any W a1 n1 c1 a2 n2 c2 g.rules moreS H.out.2.2.1 (by omega) (H.out.1.keep hW.kp).rules
            have hHe := fun W (hW : Chg [] w W) => Height_any W a1 n1 c1 a2 n2 c2 g (mi : Int) (H.out.1.keep hW.kp)
            obtain ⟨R, hR⟩ : ∃ R, R = ruleI g.rules moreS := ⟨_, rfl⟩
            obtain ⟨T, hT⟩ : ∃ T, T = heightG g mi := ⟨_, rfl⟩
            rw [← hR] at hwhy hRu
            rw [← hT] at hwhy hHe
            have HRu := Lib.hid hRu
            have HHe := Lib.hid hHe
            clear hRu hHe hR hT
            by_cases h1 : n1 = 32
            · subst h1
              go_wp2_with fail
              go_ret
              exact ⟨rfl, HZ.out.2⟩
            · by_cases h2 : 0 ≤ R
              · clear hwhy
                go_wp2_with fail
                refine (HRu.out _ HZ.out.2).mono ?_
                rintro e w9 ⟨rfl, hc9⟩
                have H9 := Lib.hid (HZ.out.2.tr hc9)
                clear hc9 s0 s1
                go_wp2_with fail
                go_ret
                exact ⟨rfl, H9.out⟩
              · obtain rfl : T = 16 := by rcases hwhy with h | h | h <;> omega
                clear hwhy
                go_wp2_with fail
                refine (HRu.out _ HZ.out.2).mono ?_
                rintro e w9 ⟨rfl, hc9⟩
                have H9 := Lib.hid (And.intro (hc9.heap HZ.out.1 (by simp)) (HZ.out.2.tr hc9))
                clear hc9 s0 s1
                obtain ⟨s0, s1⟩ := cells2 H9.out.1
                go_wp2_with fail
                refine (HHe.out _ H9.out.2).mono ?_
                rintro e w10 ⟨rfl, hc10⟩
                have H10 := Lib.hid (H9.out.2.tr hc10)
                clear hc10 s0 s1
                go_wp2_with fail
                go_ret
                exact ⟨rfl, H10.out⟩
          | true =>
            rw [hxr] at hRX
            have HXR := Lib.hid hxr
            clear hxr
            go_wp2_with fail
            refine hRX.mono ?_
            clear hRX
            rintro e wR ⟨rfl, hcR⟩
            have HZ := Lib.hid (And.intro (hcR.heap HY.out.1 (by simp)) (And.intro (hcR.heap HY.out.2 (by simp)) (And.intro (HX.out.2.2.tr hcR) (HX.out.1.keep hcR.kp))))
            clear hcR r0 r1 s0 s1
            obtain ⟨s0, s1⟩ := cells2 HZ.out.1
            obtain ⟨r0, r1⟩ := cells2 HZ.out.2.1
            go_wp2_with fail
            have cA := calls_rg (w := wR) (fun w1 h1 => wellIdle_any w1 _ _ _ _ _ _ (moreG g mi) (HZ.out.2.2.2.keep h1.kp) HX.out.2.1 (n2 : Int))
            have cB := calls_rg (w := wR) (fun w1 h1 => nullNode_any w1 _ _ _ _ _ _ g (H.out.1.keep (HZ.out.2.2.1.tr h1).kp) H.out.2.1 (mi : Int))
            rw [show (n2 : Int) = (g.nodes.length : Int) by rw [← H.out.2.2.2.1], more_idle_top HR.out HQ.out.2.2.2.1 HXR.out, ← H.out.2.2.2.1] at cA
            rw [show nodeI g mi = mayG g mi by simp only [nodeI, HR.out, Bool.true_and]; rw [decide_eq_true (by omega : (0 : Int) ≤ mi), decide_eq_true (by have := HQ.out.2.2.2.1; omega : (mi : Int) < g.nodes.length)]; rfl] at cB
            obtain ⟨v, hv⟩ : ∃ v, v = mayG g mi := ⟨_, rfl⟩
            rw [← hv] at cA cB
            have ks0 := cell_rg s0
            have ks1 := cell_rg s1
            have kr0 := cell_rg r0
            have kr1 := cell_rg r1
            clear hv s0 s1 r0 r1
            refine wp_region_quiet_below (by kernel_rfl) (by kernel_rfl) ?_
            repeat (go_big_quiet_step (first | (with_reducible exact cA _ _) | (with_reducible exact cB _ _)))
            refine wpQuiet_nil ?_
            intro w7 hw7
            have hc7 := chg_of_rg hw7
            have H7 := Lib.hid (And.intro (hc7.heap HZ.out.1 (by simp)) (And.intro (hc7.heap HZ.out.2.1 (by simp)) (And.intro (HZ.out.2.2.1.tr hc7) (HZ.out.2.2.2.keep hc7.kp))))
            clear hw7 hc7 cA cB ks0 ks1 kr0 kr1 HZ
            go_wp2_with fail
            go_loopg [10] n2 (fun dd iv wr => ∃ k : Nat, dd = n2 - k ∧ k ≤ n2 ∧ iv = .int .i64 k ∧ Hid (Chg [] w7 wr))
            case atStart => exact ⟨0, rfl, Nat.zero_le _, rfl, Lib.hid (Chg.refl _ _)⟩
            case round =>
              obtain ⟨k, rfl, hk, rfl, hin⟩ := hrel
              obtain ⟨wq, rfl⟩ : ∃ wz, wz = wr := ⟨_, rfl⟩
              have H8 := Lib.hid (And.intro (hin.out.heap H7.out.1 (by simp)) (And.intro (hin.out.heap H7.out.2.1 (by simp)) (And.intro (H7.out.2.2.1.tr hin.out) (H7.out.2.2.2.keep hin.out.kp))))
              obtain ⟨s0, s1⟩ := cells2 H8.out.1
              obtain ⟨r0, r1⟩ := cells2 H8.out.2.1
              by_cases hlt : k < n2
              · go_wp2_with fail
                have cA := calls_rg (w := wq) (fun w1 h1 => wellIdle_any w1 _ _ _ _ _ _ (moreG g mi) (H8.out.2.2.2.keep h1.kp) HX.out.2.1 (k : Int))
                have cB := calls_rg (w := wq) (fun w1 h1 => wellIdle_any w1 _ _ _ _ _ _ g (H.out.1.keep (H8.out.2.2.1.tr h1).kp) H.out.2.1 (k : Int))
                rw [show decide ((k : Int) ∈ idleL (moreG g mi)) = decide ((k : Int) ∈ idleL g) from decide_eq_decide.2 (more_idle HR.out HXR.out (by have := H.out.2.2.2.1; omega))] at cA
                obtain ⟨v, hv⟩ : ∃ v, v = decide ((k : Int) ∈ idleL g) := ⟨_, rfl⟩
                rw [← hv] at cA cB
                have ks0 := cell_rg s0
                have ks1 := cell_rg s1
                have kr0 := cell_rg r0
                have kr1 := cell_rg r1
                clear hv s0 s1 r0 r1
                refine wp_region_quiet_below (by kernel_rfl) (by kernel_rfl) ?_
                repeat (go_big_quiet_step (first | (with_reducible exact cA _ _) | (with_reducible exact cB _ _)))
                refine wpQuiet_nil ?_
                intro w11 hw11
                have hc11 := chg_of_rg hw11
                have HW := Lib.hid (hin.out.tr hc11)
                clear hw11 hc11 cA cB ks0 ks1 kr0 kr1
                go_wp2_with fail
                go_roundg (n2 - (k + 1))
                case measure => omega
                case rel => exact ⟨k + 1, rfl, by omega, by go_num, HW⟩
              · obtain rfl : k = n2 := by omega
                go_wp2_with fail
                go_ret
                exact ⟨rfl, H8.out.2.2.1⟩
end Go.Proofs.Ytibgfgfmljhimaa

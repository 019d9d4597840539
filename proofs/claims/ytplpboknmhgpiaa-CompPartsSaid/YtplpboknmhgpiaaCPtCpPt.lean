/-
  CompParts: for every graph and two numbers the law returns true.
  Conditions: the rows read as data.
-/
import Derived.Test.YtplpboknmhgpiaaCPtCpPl
import Derived.Test.YtplpboknmhgpiaaCPtCpMr
set_option linter.unusedVariables false
set_option linter.unusedSimpArgs false
set_option linter.unnecessarySimpa false
namespace Go.Proofs.Ytplpboknmhgpiaa
open Go.RowKit Go.MapKept Go.Shelf

theorem parts_none {X : List (List Int)} (h : Cp.rightI X = false ∨ X.length = 0) : Cp.partsI X = [] := by
  unfold Cp.partsI
  cases hr : Cp.rightI X with
  | false => rfl
  | true =>
    rw [if_pos rfl]
    have h0 : X.length = 0 := by
      rcases h with k | k
      · rw [hr] at k; cases k
      · exact k
    have hT := Cp.told (Cp.right_RG hr)
    have : (Cp.partsR (Cp.toG X)).length = 0 := by
      rcases Nat.eq_zero_or_pos (Cp.partsR (Cp.toG X)).length with e | e
      · exact e
      · obtain ⟨a, ha, _⟩ := hT.some 0 e
        rw [Cp.toG_len, h0] at ha; omega
    rw [List.eq_nil_of_length_eq_zero this]; rfl

set_option maxRecDepth 100000 in
set_option maxHeartbeats 32000000 in
theorem compParts_any (w : World) (a : Option Addr) (n c : Nat) (VS : List Is) (hn : n = VS.length) (hc : n ≤ c) (hm : c ≤ 9223372036854775807) (hd : IntRows w a VS) (hw : ∀ p ∈ VS, ∀ z ∈ p.2.2, I64 z) (hb : n ≤ 17592186044416) (ht : ∀ p ∈ VS, p.2.2.length ≤ 17592186044416) (z1 z2 : Int) (i1 : I64 z1) (i2 : I64 z2) :
    Calls Try.prog 3 #[.slice a n c, .int .i64 z1, .int .i64 z2] w fun e w' => e = .returned (.bool true) ∧ Chg [] w w' := by
  obtain ⟨X, hX⟩ : ∃ X, X = VS.map (·.2.2) := ⟨_, rfl⟩
  have hnX : n = X.length := by rw [hn, hX, List.length_map]
  have H := Lib.hid (And.intro hn (And.intro hd (And.intro hw (And.intro ht (And.intro hX hnX)))))
  clear hn hd hw ht hX hnX
  go_enter Try.func3, Try.ntmps3
  go_wp2_with fail
  refine (awake13_any w).mono ?_
  rintro e w1 ⟨rfl, hc1⟩
  have H1 := Lib.hid hc1
  clear hc1
  go_wp2_with fail
  refine (great_any w1 a n c VS H.out.1 hb H.out.2.2.2.1 (H.out.2.1.keep H1.out.kp)).mono ?_
  rintro e w2 ⟨rfl, hc2⟩
  rw [← H.out.2.2.2.2.1]
  obtain ⟨g, hg⟩ : ∃ g, g = greatI X := ⟨_, rfl⟩
  rw [← hg]
  have H2 := Lib.hid (And.intro hg (H1.out.tr hc2))
  clear hg hc2
  cases g with
  | true =>
    go_wp2_with fail
    go_ret
    exact ⟨rfl, H2.out.2⟩
  | false =>
    have hn600 : n ≤ 600 := by have := (great_small H2.out.1.symm).1; have := H.out.2.2.2.2.2; omega
    go_wp2_with fail
    refine (parts_any w2 a n c VS H.out.1 (by omega) (H.out.2.1.keep H2.out.2.kp)).mono ?_
    rintro e w3 ⟨pa, pc, PS, rfl, hOP, hPS, hc3⟩
    rw [← H.out.2.2.2.2.1] at hPS
    obtain ⟨m, hm2⟩ : ∃ m, m = PS.length := ⟨_, rfl⟩
    have hm64 : m ≤ 64 := by have := congrArg List.length hPS; rw [List.length_map] at this; have := parts_small (X := X); omega
    rw [← hm2]
    have H3 := Lib.hid (And.intro hOP.rows (And.intro hPS (And.intro hm2 (H2.out.2.tr hc3))))
    clear hOP hPS hm2 hc3
    go_wp2_with fail
    refine (rightC_any w3 a n c VS H.out.1 (by omega) (H.out.2.1.keep H3.out.2.2.2.kp)).mono ?_
    rintro e w4 ⟨rfl, hc4⟩
    rw [← H.out.2.2.2.2.1]
    obtain ⟨r, hr⟩ : ∃ r, r = Cp.rightI X := ⟨_, rfl⟩
    rw [← hr]
    have H4 := Lib.hid (And.intro hr (And.intro (H3.out.2.2.2.tr hc4) (H3.out.1.keep hc4.kp)))
    clear hr hc4
    by_cases hno : r = false ∨ n = 0
    · have hm0 : m = 0 := by
        have h1 := parts_none (X := X) (by rw [← H4.out.1, ← H.out.2.2.2.2.2]; exact hno)
        have := congrArg List.length H3.out.2.1
        rw [List.length_map, h1, ← H3.out.2.2.1] at this
        exact this
      subst hm0
      have hgo : r = false ∨ (r = true ∧ n = 0) := by
        rcases hno with h | h
        · exact .inl h
        · cases r with
          | false => exact .inl rfl
          | true => exact .inr ⟨rfl, h⟩
      clear hno
      rcases hgo with rfl | ⟨rfl, rfl⟩
      · go_wp2_with fail
        go_ret
        exact ⟨rfl, H4.out.2.1⟩
      · go_wp2_with fail
        go_ret
        exact ⟨rfl, H4.out.2.1⟩
    · obtain ⟨rfl, hn0⟩ : r = true ∧ 0 < n := by
        cases r with
        | false => exact absurd (.inl rfl) hno
        | true => exact ⟨rfl, by omega⟩
      clear hno
      have hnn : ((n : Int) == 0) = false := by simp; omega
      have hr := H4.out.1.symm
      obtain ⟨G, hG⟩ : ∃ G, G = Cp.toG X := ⟨_, rfl⟩
      have hRG : Cp.RG G := by rw [hG]; exact Cp.right_RG hr
      have hnG : n = G.length := by rw [hG, Cp.toG_len]; exact H.out.2.2.2.2.2
      have hXG : X = Cp.intsG G := by rw [hG, Cp.ints_toG hr]
      have hPG : PS.map (·.2.2) = Cp.intsG (Cp.partsR G) := by rw [H3.out.2.1]; unfold Cp.partsI; rw [hr, if_pos rfl, hG]
      have hpl := place_any w4 pa m pc PS G hRG n hnG H3.out.2.2.1 H4.out.2.2 hPG
      obtain ⟨L, hL⟩ : ∃ L, L = Cp.partsR G := ⟨_, rfl⟩
      have hT := Cp.told hRG
      have hmL : m = L.length := by have := congrArg List.length hPG; rw [List.length_map, Cp.intsG_len, ← hL, ← H3.out.2.2.1] at this; exact this
      have hpart : ∀ i : Nat, i < n → Cp.partI X i = Cp.placeR L i := fun i hi => by
        unfold Cp.partI
        rw [hr, Cp.numI_nat (by rw [← H.out.2.2.2.2.2]; exact hi), ← hG, ← hL]; simp
      rw [← hL] at hpl hT hPG
      have HG := Lib.hid (And.intro hr (And.intro hRG (And.intro hnG (And.intro hXG (And.intro hPG (And.intro hT (And.intro hmL (And.intro hpart (And.intro hG hL)))))))))
      have HP := Lib.hid hpl
      clear hr hRG hnG hXG hPG hT hmL hpart hG hL hpl
      go_wp2_with fail
      refine HP.out.mono ?_
      rintro e w5 ⟨ga, rfl, hga, hrow, hc5⟩
      have H5 := Lib.hid (And.intro hrow (And.intro (H4.out.2.1.tr hc5) (H4.out.2.2.keep hc5.kp)))
      clear hrow hc5
      have hqq : ((n : Int) != (n : Int)) = false := by simp
      have hmk := fun W => run_ints m (by omega) W
      obtain ⟨gn, hgn⟩ : ∃ gn, gn = w5.heap.size := ⟨_, rfl⟩
      have hB := heap_alloc_same w5 (rowI (List.replicate m 0))
      have hcB := (Chg.refl [] w5).alloc (rowI (List.replicate m 0))
      have hB2 : (w5.alloc (rowI (List.replicate m 0))).heap[gn]? = some (rowI ((List.range m).map (Cp.needsN (Cp.placeR L) []))) := by
        rw [hgn, hB]; congr 2
        rw [show (List.range m).map (Cp.needsN (Cp.placeR L) []) = (List.range m).map (fun _ => (0 : Int)) from List.map_congr_left (fun p _ => rfl), List.map_const', List.length_range]
      have HB := Lib.hid (And.intro hB2 (And.intro hcB hgn))
      clear hB hcB hB2
      go_wp2_with fail
      rw [← hgn]
      clear hgn hmk hqq
      have hci : ∀ wr, Chg [] w5 wr → wr.heap[ga]? = some (rowI ((List.range n).map (Cp.placeR L))) := fun wr h => h.heap H5.out.1 (by simp)
      have HA := Lib.hid hci
      clear hci
      have hplc : ∀ i, i < n → ∃ p : Nat, Cp.placeR L i = (p : Int) ∧ p < m := fun i hi => by
        obtain ⟨q1, q2⟩ := HG.out.2.2.2.2.2.1.place i (by rw [← HG.out.2.2.1]; exact hi)
        exact ⟨(Cp.placeR L i).toNat, by omega, by have := HG.out.2.2.2.2.2.2.1; omega⟩
      have HPL := Lib.hid hplc
      clear hplc
      go_loopg [10] n (fun d iv wr => ∃ i : Nat, d = n - i ∧ i ≤ n ∧ iv = .int .i64 i ∧ Hid (wr.heap[gn]? = some (rowI ((List.range m).map (Cp.needsN (Cp.placeR L) (Cp.edgesTo G i 0)))) ∧ Chg [] w5 wr))
      case atStart => exact ⟨0, rfl, Nat.zero_le _, rfl, Lib.hid ⟨by have := HB.out.1; simpa [Cp.edgesTo] using this, HB.out.2.1⟩⟩
      case round =>
        obtain ⟨i, rfl, hi, rfl, hin⟩ := hrel
        obtain ⟨wq, rfl⟩ : ∃ wz, wz = wr := ⟨_, rfl⟩
        by_cases hlt : i < n
        · obtain ⟨p, hp, hpm⟩ := HPL.out i hlt
          have xa := rowI_get (HA.out wq hin.out.2) hlt
          rw [hp] at xa
          have cP := calls_rg (w := wq) (fun w1' h1 => part_any w1' a n c VS H.out.1 (by omega) (H.out.2.1.keep ((H5.out.2.1.tr hin.out.2).tr h1).kp) i (by unfold I64; omega))
          rw [← H.out.2.2.2.2.1, HG.out.2.2.2.2.2.2.2.1 i hlt, hp] at cP
          have hd1 : decide ((p : Int) < 0) = false := decide_eq_false (by omega)
          have hd2 : ((p : Int) != (p : Int)) = false := by simp
          have ka := cell_rg xa
          obtain ⟨b1, o1, ra, rc, rfl, k1, k2, k3⟩ := rows_at H.out.2.1 H.out.2.2.2.2.1.symm (i := i) (by rw [← H.out.1]; exact hlt)
          have hrow : X.getD i [] = natI (Cp.row G i) := by
            rw [HG.out.2.2.2.1]
            unfold Cp.intsG Cp.row natI
            have : i < G.length := by rw [← HG.out.2.2.1]; exact hlt
            simp [this]
          rw [hrow] at k1 k2 k3
          rw [natI_len] at k1 k3
          obtain ⟨q, hq⟩ : ∃ q, q = (Cp.row G i).length := ⟨_, rfl⟩
          rw [← hq] at k1 k3
          have HK := Lib.hid (And.intro k1 (And.intro k2 (And.intro hq hp)))
          clear k1 k2 hq hp hrow xa
          go_wp2_with fail
          refine wp_region_quiet_below (by kernel_rfl) (by kernel_rfl) ?_
          (repeat (go_big_quiet_step (first | (with_reducible exact cP _ _))))
          refine wpQuiet_nil ?_
          intro w6 hw6
          have hc6 := chg_of_rg hw6
          clear hw6 cP ka hd1 hd2
          have H6 := Lib.hid hc6
          clear hc6
          go_wp2_with fail
          go_loopg [11] q (fun d kv wr => ∃ k : Nat, d = q - k ∧ k ≤ q ∧ kv = .int .i64 k ∧ Hid (wr.heap[gn]? = some (rowI ((List.range m).map (Cp.needsN (Cp.placeR L) (Cp.edgesTo G i k)))) ∧ Chg [] w5 wr))
          case atStart => exact ⟨0, rfl, Nat.zero_le _, rfl, Lib.hid ⟨H6.out.heap hin.out.1 (by simp), hin.out.2.tr H6.out⟩⟩
          case round =>
            obtain ⟨k, rfl, hk, rfl, hin3⟩ := hrel
            obtain ⟨wt, rfl⟩ : ∃ wz, wz = wr := ⟨_, rfl⟩
            have hcw := H5.out.2.1.tr hin3.out.2
            have k1 := hcw.cell HK.out.1 (by simp)
            by_cases hlt3 : k < q
            · have hkl : k < (Cp.row G i).length := by rw [← HK.out.2.2.1]; exact hlt3
              obtain ⟨bz, oz, rfl, hz⟩ := (HK.out.2.1.keep hcw.kp) k (by rw [natI_len]; exact hkl)
              obtain ⟨b, hbb⟩ : ∃ b, b = (Cp.row G i)[k] := ⟨_, rfl⟩
              have hz' : wt.cell? ⟨bz, oz + k, none⟩ = some (.int .i64 (b : Nat)) := by rw [hz]; simp [natI, hbb]
              have hmem : b ∈ Cp.row G i := by rw [hbb]; exact List.getElem_mem hkl
              have hbn : b < n := by rw [HG.out.2.2.1]; exact HG.out.2.1.lt i b hmem
              have hdown := HG.out.2.2.2.2.2.1.down i (by rw [← HG.out.2.2.1]; exact hlt) b hmem
              obtain ⟨t, htp, htm⟩ := HPL.out b hbn
              have xb := rowI_get (HA.out wt hin3.out.2) hbn
              have xi := rowI_get (HA.out wt hin3.out.2) hlt
              rw [htp] at xb
              rw [HK.out.2.2.2] at xi
              rw [HK.out.2.2.2, htp] at hdown
              have hsucc : Cp.edgesTo G i (k + 1) = Cp.edgesTo G i k ++ [(i, b)] := by rw [Cp.edgesTo_succ hkl, ← hbb]
              have hd1 : decide ((p : Int) < (t : Int)) = false := decide_eq_false (by omega)
              have hd1b : decide (p < t) = false := decide_eq_false (by omega)
              have HX := Lib.hid (And.intro hsucc htp)
              clear hz hbb hmem hdown htp hsucc hkl hcw
              by_cases htt : t = p
              · subst htt
                have hd2 : ((t : Int) != (t : Int)) = false := by simp
                go_wp2_with fail
                go_roundg (q - (k + 1))
                case measure => omega
                case rel => exact ⟨k + 1, rfl, by omega, by go_num, Lib.hid ⟨by rw [HX.out.1, Cp.needsN_same (HX.out.2.trans HK.out.2.2.2.symm)]; exact hin3.out.1, hin3.out.2⟩⟩
              · have hd2 : ((t : Int) != (p : Int)) = true := by simpa using (show ¬ ((t : Int) = (p : Int)) by omega)
                have xn := rowI_get hin3.out.1 hpm
                obtain ⟨v, hv⟩ : ∃ v, v = Cp.needsN (Cp.placeR L) (Cp.edgesTo G i k) p := ⟨_, rfl⟩
                rw [← hv] at xn
                have xnf : wt.frozen? ⟨gn, p, none⟩ = false := free_of_cells hin3.out.1 p
                have hw1 : IntKind.i64.wrap ((t : Int) + 1) = (t : Int) + 1 := IntWalk.i64_in _ (by omega)
                have HV := Lib.hid hv
                have hne : Cp.placeR L b ≠ (p : Int) := by rw [HX.out.2]; omega
                have HN := Lib.hid hne
                clear hv hne
                go_wp2_with fail
                go_region
                obtain ⟨w7, hw⟩ : ∃ w7, w7 = (wt.setCell ⟨gn, p, none⟩ (.int .i64 (max v ((t : Int) + 1)))).drew := ⟨_, rfl⟩
                rw [← hw]
                have hset : w7.heap[gn]? = some (rowI ((List.range m).map (Cp.needsN (Cp.placeR L) (Cp.edgesTo G i (k + 1))))) ∧ Chg [] w5 w7 := by
                  rw [hw, HX.out.1, Cp.needsN_more HK.out.2.2.2 HN.out, HX.out.2, ← HV.out]
                  exact ⟨rowI_set hin3.out.1 _, (hin3.out.2.setCell (p := ⟨gn, p, none⟩) (.inr (by have := HB.out.2.2; show w5.heap.size ≤ gn; omega)) _).drew⟩
                have HS := Lib.hid hset
                clear hset hw xn xnf hw1 xb xi
                go_wp2_with fail
                go_roundg (q - (k + 1))
                case measure => omega
                case rel => exact ⟨k + 1, rfl, by omega, by go_num, HS⟩
            · obtain rfl : q = k := by omega
              go_wp2_with fail
              go_roundg (n - (i + 1))
              case measure => omega
              case rel => exact ⟨i + 1, rfl, by omega, by go_num, Lib.hid ⟨by rw [Cp.edgesTo_zero, ← HK.out.2.2.1]; exact hin3.out.1, hin3.out.2⟩⟩
        · obtain rfl : n = i := by omega
          have hnd : wq.heap[gn]? = some (rowI ((List.range m).map (Cp.needsN (Cp.placeR L) (Cp.edges G)))) := by
            have := hin.out.1
            rw [show Cp.edgesTo G n 0 = Cp.edges G from by rw [HG.out.2.2.1]; exact Cp.edgesTo_all] at this
            exact this
          have HN := Lib.hid hnd
          clear hnd
          go_wp2_with fail
          go_loopg [13] m (fun d pv wr => ∃ p : Nat, d = m - p ∧ p ≤ m ∧ pv = .int .i64 p ∧ Hid (Chg [] wq wr))
          case atStart => exact ⟨0, rfl, Nat.zero_le _, rfl, Lib.hid (Chg.refl _ _)⟩
          case round =>
            obtain ⟨p, rfl, hp, rfl, hin2⟩ := hrel
            obtain ⟨ws, rfl⟩ : ∃ wz, wz = wr := ⟨_, rfl⟩
            by_cases hlt2 : p < m
            · have xn := rowI_get (hin2.out.heap HN.out (by simp)) hlt2
              have hsm := Cp.needs_small HG.out.2.1 (Cp.edges G) p
              rw [← HG.out.2.2.2.2.2.2.2.2.2] at hsm
              obtain ⟨v, hv⟩ : ∃ v : Nat, Cp.needsN (Cp.placeR L) (Cp.edges G) p = (v : Int) := ⟨(Cp.needsN (Cp.placeR L) (Cp.edges G) p).toNat, by omega⟩
              rw [hv] at xn hsm
              have hv64 : v ≤ 64 := by omega
              have HV := Lib.hid hv
              clear hv hsm
              go_wp2_with fail
              go_loopg [14] (65 - v) (fun d qv wr => ∃ q : Nat, d = 65 - q ∧ q ≤ 65 ∧ v ≤ q ∧ qv = .int .i64 q ∧ Hid (Chg [] wq wr))
              case atStart => exact ⟨v, rfl, by omega, Nat.le_refl _, rfl, hin2⟩
              case round =>
                obtain ⟨q, rfl, hq, hvq, rfl, hin3⟩ := hrel
                obtain ⟨wt, rfl⟩ : ∃ wz, wz = wr := ⟨_, rfl⟩
                by_cases hlt3 : q < p
                · have hPS := (H5.out.2.2.keep (hin.out.2.tr hin3.out).kp)
                  have hmL := HG.out.2.2.2.2.2.2.1
                  have hmP := H3.out.2.2.1
                  obtain ⟨b1, o1, ra, rc, rfl, k1, k2, k3⟩ := rows_at hPS HG.out.2.2.2.2.1 (i := q) (by omega)
                  obtain ⟨b2, o2, ra2, rc2, e2, y1, y2, y3⟩ := rows_at hPS HG.out.2.2.2.2.1 (i := p) (by omega)
                  obtain ⟨rfl, rfl⟩ : b1 = b2 ∧ o1 = o2 := by simpa using e2
                  have hqL : q < (Cp.partsR G).length := by rw [← HG.out.2.2.2.2.2.2.2.2.2]; omega
                  have hpL : p < (Cp.partsR G).length := by rw [← HG.out.2.2.2.2.2.2.2.2.2]; omega
                  obtain ⟨hq0, hq1, -, -⟩ := Cp.head_part HG.out.2.1 hqL
                  obtain ⟨hp0, hp1, -, -⟩ := Cp.head_part HG.out.2.1 hpL
                  have hlst := Cp.needs_least HG.out.2.1 (q := q) (p := p) (by rw [← HG.out.2.2.2.2.2.2.2.2.2, HV.out]; omega) hlt3 hpL
                  rw [← HG.out.2.2.2.2.2.2.2.2.2] at hq0 hq1 hp0 hp1 hlst hqL hpL
                  have hg1 : (Cp.intsG L).getD q [] = natI (L.getD q []) := by unfold Cp.intsG natI; simp [hqL]
                  have hg2 : (Cp.intsG L).getD p [] = natI (L.getD p []) := by unfold Cp.intsG natI; simp [hpL]
                  rw [hg1] at k1 k2 k3
                  rw [hg2] at y1 y2 y3
                  rw [natI_len] at k1 k3 y1 y3
                  obtain ⟨hh1, hh1e⟩ : ∃ z, z = Cp.headO L q := ⟨_, rfl⟩
                  obtain ⟨hh2, hh2e⟩ : ∃ z, z = Cp.headO L p := ⟨_, rfl⟩
                  rw [← hh1e] at hq1 hlst
                  rw [← hh2e] at hp1 hlst
                  obtain ⟨b3, o3, rfl, k4, -⟩ := ints_at k2 (i := 0) (z := (hh1 : Nat)) (by unfold natI; rw [List.getElem?_map, hq1]; rfl)
                  obtain ⟨b4, o4, rfl, y4, -⟩ := ints_at y2 (i := 0) (z := (hh2 : Nat)) (by unfold natI; rw [List.getElem?_map, hp1]; rfl)
                  rw [Nat.add_zero] at k4 y4
                  obtain ⟨l1, hl1⟩ : ∃ l1, l1 = (L.getD q []).length := ⟨_, rfl⟩
                  obtain ⟨l2, hl2⟩ : ∃ l2, l2 = (L.getD p []).length := ⟨_, rfl⟩
                  rw [← hl1] at k1 k3 hq0
                  rw [← hl2] at y1 y3 hp0
                  have hd1 : decide ((hh2 : Int) < (hh1 : Int)) = false := decide_eq_false (by omega)
                  have hd1b : decide (hh2 < hh1) = false := decide_eq_false (by omega)
                  have z1 := cell_rg k1
                  have z2 := cell_rg y1
                  have z3 := cell_rg k4
                  have z4 := cell_rg y4
                  clear k1 k2 k4 y1 y2 y4 hPS e2 hq1 hp1 hg1 hg2 hh1e hh2e hl1 hl2 hlst hqL hpL hmL hmP
                  go_wp2_with fail
                  refine wp_region_quiet_below (by kernel_rfl) (by kernel_rfl) ?_
                  (repeat (go_big_quiet_step (fail)))
                  refine wpQuiet_nil ?_
                  intro w6 hw6
                  have hc6 := chg_of_rg hw6
                  clear hw6 z1 z2 z3 z4
                  go_wp2_with fail
                  go_roundg (65 - (q + 1))
                  case measure => omega
                  case rel => exact ⟨q + 1, rfl, by omega, by omega, by go_num, Lib.hid (hin3.out.tr hc6)⟩
                · have hd1 : decide ((q : Int) < (p : Int)) = false := decide_eq_false (by omega)
                  go_wp2_with fail
                  go_roundg (m - (p + 1))
                  case measure => omega
                  case rel => exact ⟨p + 1, rfl, by omega, by go_num, hin3⟩
            · obtain rfl : m = p := by omega
              have hcs := (H5.out.2.1.tr hin.out.2).tr hin2.out
              have HW := Lib.hid hcs
              clear hcs
              go_wp2_with fail
              refine (pickKn_any z1 n ws (by omega) i1).mono ?_
              rintro e wA ⟨rfl, hcA⟩
              obtain ⟨i, ei, hi2⟩ := pick_nat z1 hn0
              rw [ei]
              have H7 := Lib.hid hcA
              clear hcA ei
              go_wp2_with fail
              refine (pickKn_any z2 n wA (by omega) i2).mono ?_
              rintro e wB ⟨rfl, hcB⟩
              obtain ⟨k, ek, hk2⟩ := pick_nat z2 hn0
              rw [ek]
              have H8 := Lib.hid (H7.out.tr hcB)
              clear hcB ek
              obtain ⟨pi, hpi, hpim⟩ := HPL.out i hi2
              obtain ⟨pk, hpk, hpkm⟩ := HPL.out k hk2
              have hc5B := (hin.out.2.tr hin2.out).tr H8.out
              have xi := rowI_get (HA.out wB hc5B) hi2
              have xk := rowI_get (HA.out wB hc5B) hk2
              rw [hpi] at xi
              rw [hpk] at xk
              have yi := cell_rg xi
              have yk := cell_rg xk
              obtain ⟨l1, hl1⟩ : ∃ l1, l1 = Cp.leadsI X i k := ⟨_, rfl⟩
              obtain ⟨l2, hl2⟩ : ∃ l2, l2 = Cp.leadsI X k i := ⟨_, rfl⟩
              have c1 := calls_rg (w := wB) (fun w1' h1 => leadsC_any w1' a n c VS H.out.1 (by omega) (H.out.2.1.keep ((HW.out.tr H8.out).tr h1).kp) i k (by unfold I64; omega) (by unfold I64; omega))
              have c2 := calls_rg (w := wB) (fun w1' h1 => leadsC_any w1' a n c VS H.out.1 (by omega) (H.out.2.1.keep ((HW.out.tr H8.out).tr h1).kp) k i (by unfold I64; omega) (by unfold I64; omega))
              rw [← H.out.2.2.2.2.1, ← hl1] at c1
              rw [← H.out.2.2.2.2.1, ← hl2] at c2
              have heq : ((pi : Int) == (pk : Int)) = (l1 && l2) := by
                have h1 := HG.out.2.2.2.2.2.1.same i k (by rw [← HG.out.2.2.1]; exact hi2) (by rw [← HG.out.2.2.1]; exact hk2)
                rw [hpi, hpk] at h1
                have h2 := Cp.leads_iff HG.out.1 (a := i) (b := k) (by have := H.out.2.2.2.2.2; omega) (by have := H.out.2.2.2.2.2; omega)
                have h3 := Cp.leads_iff HG.out.1 (a := k) (b := i) (by have := H.out.2.2.2.2.2; omega) (by have := H.out.2.2.2.2.2; omega)
                rw [← hl1, ← HG.out.2.2.2.2.2.2.2.2.1] at h2
                rw [← hl2, ← HG.out.2.2.2.2.2.2.2.2.1] at h3
                rw [Bool.eq_iff_iff, Bool.and_eq_true, h2, h3, beq_iff_eq]
                exact h1
              clear hpi hpk xi xk hl1 hl2
              have fin : ∀ (wZ : World), Chg [] wB wZ → Chg [] w wZ := fun wZ h => (HW.out.tr H8.out).tr h
              have HFin := Lib.hid fin
              clear fin
              cases l1 with
              | false =>
                have he : ((pi : Int) == (pk : Int)) = false := heq
                have he2 : decide (pi = pk) = false := decide_eq_false (fun e => by rw [e] at he; simp at he)
                clear heq
                go_wp2_with fail
                refine wp_region_quiet_below (by kernel_rfl) (by kernel_rfl) ?_
                (repeat (go_big_quiet_step (first | (with_reducible exact c1 _ _) | (with_reducible exact c2 _ _))))
                refine wpQuiet_nil ?_
                intro w6 hw6
                have hc6 := chg_of_rg hw6
                clear hw6 yi yk c1 c2
                go_wp2_with fail
                go_ret
                exact ⟨ret_bool (by simp), HFin.out _ hc6⟩
              | true =>
                have he : ((pi : Int) == (pk : Int)) = l2 := heq
                clear heq
                go_wp2_with fail
                refine wp_region_quiet_below (by kernel_rfl) (by kernel_rfl) ?_
                (repeat (go_big_quiet_step (first | (with_reducible exact c1 _ _) | (with_reducible exact c2 _ _))))
                refine wpQuiet_nil ?_
                intro w6 hw6
                have hc6 := chg_of_rg hw6
                clear hw6 yi yk c1 c2
                go_wp2_with fail
                go_ret
                exact ⟨ret_bool (by first | rfl | simp | (rw [← he]; simp)), HFin.out _ hc6⟩
end Go.Proofs.Ytplpboknmhgpiaa

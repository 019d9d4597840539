/-
  CompMore: for every graph and two numbers the law returns true.
  Conditions: the rows read as data.
-/
import Derived.Test.YtplpboknmhgpiaaCEdCpTn
import Derived.Test.YtplpboknmhgpiaaCEdCpLd
import Derived.Test.YtplpboknmhgpiaaCEdCpCy
set_option linter.unusedVariables false
set_option linter.unusedSimpArgs false
set_option linter.unnecessarySimpa false
namespace Go.Proofs.Ytplpboknmhgpiaa
open Go.RowKit Go.MapKept Go.Shelf

theorem row_cap {w : World} {B e s n c : Nat} {a : Option Addr} {xs : List Value} (h : w.ownsRow B e s (.slice a n c) n xs) : n ≤ c ∧ c ≤ 9223372036854775807 := by
  rcases h.2 with ⟨h0, h1⟩ | ⟨g, cap, cur, h0, _, _, h3, h4, _⟩
  · simp only [Value.slice.injEq] at h0; omega
  · simp only [Value.slice.injEq] at h0
    simp only [maxLen] at h4
    omega
theorem rows_of_own {w : World} {B n c : Nat} {a : Option Addr} {VS : List Is} (hn : n = VS.length) (h : w.ownsRow B 26 1 (.slice a n c) n (VS.map Is.cell)) (hr : ∀ p ∈ VS, Ints w p.1 p.2.2 ∧ p.2.2.length ≤ 9223372036854775807) : IntRows w a VS := fun i hi => by
  rcases h.2 with ⟨h0, h1⟩ | ⟨g, cap, cur, h0, _⟩
  · omega
  · simp only [Value.slice.injEq] at h0
    obtain ⟨rfl, -, rfl⟩ := h0
    have := (row_put h (i := i) (by omega)).1
    rw [List.getElem?_map, List.getElem?_eq_getElem hi] at this
    obtain ⟨q1, q2⟩ := hr _ (List.getElem_mem hi)
    exact ⟨g, 0, rfl, by rw [Nat.zero_add]; exact this, q1, q2⟩
theorem part_small {X : List (List Int)} (h : Cp.rightI X = true) {i : Nat} (hi : i < X.length) : ∃ p : Nat, Cp.partI X i = (p : Int) ∧ p < (Cp.partsI X).length := by
  have h3 := (Cp.told (Cp.right_RG h)).place i (by rw [Cp.toG_len]; exact hi)
  refine ⟨(Cp.placeR (Cp.partsR (Cp.toG X)) i).toNat, ?_, ?_⟩
  · unfold Cp.partI
    rw [h, Cp.numI_nat hi]
    simp; omega
  · unfold Cp.partsI
    rw [h, if_pos rfl, Cp.intsG_len]; omega
theorem parts_small {X : List (List Int)} : (Cp.partsI X).length ≤ 64 := by
  unfold Cp.partsI
  cases h : Cp.rightI X with
  | false => simp
  | true => rw [if_pos rfl, Cp.intsG_len]; exact (Cp.place_small (Cp.right_RG h) 0).2.2

set_option maxRecDepth 100000 in
set_option maxHeartbeats 16000000 in
theorem compMore_any (w : World) (a : Option Addr) (n c : Nat) (VS : List Is) (hn : n = VS.length) (hc : n ≤ c) (hm : c ≤ 9223372036854775807) (hd : IntRows w a VS) (hw : ∀ p ∈ VS, ∀ z ∈ p.2.2, I64 z) (hb : n ≤ 17592186044416) (ht : ∀ p ∈ VS, p.2.2.length ≤ 17592186044416) (z1 z2 : Int) (i1 : I64 z1) (i2 : I64 z2) :
    Calls Try.prog 5 #[.slice a n c, .int .i64 z1, .int .i64 z2] w fun e w' => e = .returned (.bool true) ∧ Chg [] w w' := by
  obtain ⟨X, hX⟩ : ∃ X, X = VS.map (·.2.2) := ⟨_, rfl⟩
  have hnX : n = X.length := by rw [hn, hX, List.length_map]
  have H := Lib.hid (And.intro hn (And.intro hd (And.intro hw (And.intro ht (And.intro hX hnX)))))
  clear hn hd hw ht hX hnX
  go_enter Try.func5, Try.ntmps5
  go_wp2_with fail
  refine (awake13_any w).mono ?_
  rintro e w1 ⟨rfl, hc1⟩
  have H1 := Lib.hid hc1
  clear hc1
  go_wp2_with fail
  refine (great_any w1 a n c VS H.out.1 hb H.out.2.2.2.1 (H.out.2.1.keep H1.out.kp)).mono ?_
  rintro e w2 ⟨rfl, hc2⟩
  rw [← H.out.2.2.2.2.1]
  obtain ⟨g, hg⟩ : ∃ g, g = greatI X := ⟨_, rfl⟩
  rw [← hg]
  have H2 := Lib.hid (And.intro hg (H1.out.tr hc2))
  clear hg hc2
  cases g with
  | true =>
    go_wp2_with fail
    go_ret
    exact ⟨rfl, H2.out.2⟩
  | false =>
    have hn600 : n ≤ 600 := by have := (great_small H2.out.1.symm).1; have := H.out.2.2.2.2.2; omega
    go_wp2_with fail
    refine (rightC_any w2 a n c VS H.out.1 (by omega) (H.out.2.1.keep H2.out.2.kp)).mono ?_
    rintro e w3 ⟨rfl, hc3⟩
    rw [← H.out.2.2.2.2.1]
    obtain ⟨r, hr⟩ : ∃ r, r = Cp.rightI X := ⟨_, rfl⟩
    rw [← hr]
    have H3 := Lib.hid (And.intro hr (H2.out.2.tr hc3))
    clear hr hc3
    cases r with
    | false =>
      go_wp2_with fail
      go_ret
      exact ⟨rfl, H3.out.2⟩
    | true =>
      by_cases hn0 : n = 0
      · have h0 : ((n : Int) == 0) = true := by rw [hn0]; rfl
        clear hn0
        go_wp2_with fail
        go_ret
        exact ⟨rfl, H3.out.2⟩
      · have h0 : ((n : Int) == 0) = false := by simp; omega
        by_cases hn64 : n = 64
        · have h64 : ((n : Int) == 64) = true := by rw [hn64]; rfl
          clear hn64
          go_wp2_with fail
          go_ret
          exact ⟨rfl, H3.out.2⟩
        · have h64 : ((n : Int) == 64) = false := by simp; omega
          have hr := H3.out.1.symm
          have hnle : n < 64 := by have := (Cp.right_iff.1 hr).1; have := H.out.2.2.2.2.2; omega
          have hnp : 0 < n := by omega
          go_wp2_with fail
          refine (pickKn_any z1 n w3 (by omega) i1).mono ?_
          rintro e w4 ⟨rfl, hc4⟩
          obtain ⟨i, ei, hi⟩ := pick_nat z1 hnp
          rw [ei]
          have H4 := Lib.hid (H3.out.2.tr hc4)
          clear hc4 ei
          go_wp2_with fail
          refine (pickKn_any z2 n w4 (by omega) i2).mono ?_
          rintro e w5 ⟨rfl, hc5⟩
          obtain ⟨q, eq, hq⟩ := pick_nat z2 hnp
          rw [eq]
          have H5 := Lib.hid (H4.out.tr hc5)
          clear hc5 eq h0 h64 hn0 hn64
          go_wp2_with fail
          refine (CopyIntRows_any w5 a n c VS H.out.1 (by omega) (fun p hp => by
            have := (great_small H2.out.1.symm).2 p.2.2 (by rw [H.out.2.2.2.2.1]; exact List.mem_map.2 ⟨p, hp, rfl⟩)
            omega) (H.out.2.1.keep H5.out.kp)).mono ?_
          rintro e w6 ⟨ca, cc, CS, rfl, hCS, hCR, hc6⟩
          rw [← H.out.2.2.2.2.1] at hCS ⊢
          rw [← H.out.2.2.2.2.2]
          have hCn : CS.length = n := by have := congrArg List.length hCS; rw [List.length_map] at this; rw [this]; exact H.out.2.2.2.2.2.symm
          obtain ⟨iN, hiN, hz0, hz1, hz2⟩ := info_parts Try.infoInts
          obtain ⟨wA, eA⟩ : ∃ wA, wA = (w6.alloc (Obj.cells #[.int .i64 i] 3)).alloc (Obj.cells #[.slice (some ⟨w6.heap.size, 0, none⟩) 1 1] 26) := ⟨_, rfl⟩
          have hcA : Chg [] w6 wA := by rw [eA]; exact ((Chg.refl [] w6).alloc _).alloc _
          have hCA := hCR.chg0 hcA
          have hg1 : wA.heap[w6.heap.size]? = some (.cells #[.int .i64 i] 3 (0, 0)) := by rw [eA]; exact heap_alloc_lt (heap_alloc_same _ _) _
          have hrowA := hCA.row
          rw [hCn] at hrowA
          have hb1 : ∀ u ∈ [Value.slice (some ⟨w6.heap.size, 0, none⟩) 1 1], u.oneCell' = true := by simp [Value.oneCell']
          have hb2 : n + 1 ≤ maxLen ∧ (n + 1) * 24 ≤ 140737488355328 := by simp only [maxLen]; omega
          have hnew := cells_at (w := wA) (b := w6.heap.size + 1) (cs := #[.slice (some ⟨w6.heap.size, 0, none⟩) 1 1]) (t := 26) (m := (0, 0)) (by rw [eA]; have := heap_alloc_same (w6.alloc (Obj.cells #[.int .i64 i] 3)) (Obj.cells #[.slice (some ⟨w6.heap.size, 0, none⟩) 1 1] 26); rw [World.size_alloc] at this; exact this)
          have hszA : w5.heap.size ≤ wA.heap.size := (hc6.tr hcA).size
          rw [eA] at hrowA hnew hszA
          have H8 := Lib.hid (And.intro hrowA (And.intro hb1 (And.intro hb2 (And.intro hnew (And.intro hszA (And.intro hg1 (And.intro hCA (And.intro hcA (And.intro hc6 (And.intro hCS (And.intro hCn eA)))))))))))
          clear hrowA hb1 hb2 hnew hszA hg1 hCA hcA hc6 hCS hCn eA hCR
          go_wp2_with (at_builtin; refine wpList_append_own_at _ rfl _ _ 22 rfl w5.heap.size 26 iN _ 1 24 Try.underlying22 hiN hz0 hz1 hz2 rfl (by decide) (.slice ca n cc) n (CS.map Is.cell) rfl H8.out.1 ⟨w6.heap.size + 1, 0, none⟩ 1 1 [.slice (some ⟨w6.heap.size, 0, none⟩) 1 1] rfl rfl H8.out.2.2.2.1 H8.out.2.1 H8.out.2.2.1.1 H8.out.2.2.1.2 H8.out.2.2.2.2.1 ?_; intro v' w8 hr5 hg5 hn5 hb5; obtain ⟨ya, yc, rfl⟩ := ownsRow_slice hr5; have HW := Lib.hid (And.intro hr5 hg5); clear hr5 hg5 hn5 hb5)
          obtain ⟨YS, hYS⟩ : ∃ YS : List Is, YS = CS ++ [(some ⟨w6.heap.size, 0, none⟩, 1, [(i : Int)])] := ⟨_, rfl⟩
          obtain ⟨X', hX'⟩ : ∃ X', X' = X ++ [[(i : Int)]] := ⟨_, rfl⟩
          have hYR : IntRows w8 ya YS ∧ YS.map (·.2.2) = X' ∧ n + 1 = YS.length ∧ n + 1 ≤ yc ∧ yc ≤ 9223372036854775807 ∧ Chg [] w w8 := by
            obtain ⟨h1, -, -, -, -, hg1, hCA, hcA, hc6, hCS, hCn, eA⟩ := H8.out
            obtain ⟨hr5, hg5⟩ := HW.out
            rw [← eA] at hg5 h1
            have hown : ∀ j, j ∈ (Value.slice ca n cc).ownBlock.toList → NotRow wA 3 j := fun j hj => row_notrow h1 (Option.mem_toList.1 hj) (by decide)
            have hcg : Chg (Value.slice ca n cc).ownBlock.toList wA w8 := (Chg.refl _ _).grown hg5 (fun j hj => .inl (by rw [hj]; simp))
            have hlen : YS.length = n + 1 := by rw [hYS, List.length_append, hCn]; rfl
            have hR : CopyR w5.heap.size w8 ya yc YS := by
              refine ⟨?_, fun p hp => ?_⟩
              · rw [hlen, hYS, List.map_append]; exact hr5
              · rw [hYS] at hp
                rcases List.mem_append.1 hp with k | k
                · exact (hCA.each p k).chg hcg hown
                · rw [List.mem_singleton.1 k]
                  refine CopyOne.chg (w := wA) ?_ hcg hown
                  exact ⟨rfl, .inr ⟨w6.heap.size, 1, _, rfl, Nat.zero_le _, hg1, Nat.le_refl _, by simp only [maxLen]; omega, by simp, by simp⟩⟩
            refine ⟨hR.rows, ?_, hlen.symm, (row_cap hr5).1, (row_cap hr5).2, ?_⟩
            · rw [hYS, List.map_append, hCS, hX']; rfl
            · refine ((H5.out.tr hc6).tr hcA).trans hcg (fun j hj => .inr ?_)
              have := (row_beyond h1 (Option.mem_toList.1 hj)).1
              have := H5.out.size
              omega
          have HY := Lib.hid hYR
          have hyc : n + 1 ≤ yc ∧ yc ≤ 9223372036854775807 := ⟨hYR.2.2.2.1, hYR.2.2.2.2.1⟩
          clear hYR hYS
          have hnX := H.out.2.2.2.2.2
          have hiX : i < X.length := by omega
          have hqX : q < X.length := by omega
          have h64X : X.length < 64 := by omega
          obtain ⟨pi, hpi, hpil⟩ := part_small hr hiX
          obtain ⟨pn, hpn⟩ : ∃ pn, pn = (Cp.partsI X).length := ⟨_, rfl⟩
          have m1 := Cp.more_right hr hiX h64X
          have m2 := Cp.more_partsI hr hiX h64X
          have m3 := Cp.more_place hr hiX h64X hiX
          have m4 := Cp.more_place_last hr hiX h64X
          have m5 := Cp.more_leads hr hiX h64X hiX hqX
          obtain ⟨m6, m7⟩ := Cp.more_leads_last hr hiX h64X
          have m8 := Cp.more_ring hr hiX h64X hqX
          have m9 := Cp.more_ring_last hr hiX h64X
          rw [← hX'] at m1 m2 m3 m4 m5 m6 m7 m8 m9
          rw [← hnX] at m2 m4 m6 m7 m9
          rw [← hpn] at m4 hpil
          rw [hpi] at m3
          have hps := parts_small (X := X)
          rw [← hpn] at hps
          have HM := Lib.hid (And.intro m1 (And.intro m2 (And.intro m3 (And.intro m4 (And.intro m5 (And.intro m6 (And.intro m7 (And.intro m8 (And.intro m9 (And.intro hpn hX'))))))))))
          clear m1 m2 m3 m4 m5 m6 m7 m8 m9 hpi hpn hX' hnX hiX hqX h64X hr
          go_wp2_with fail
          refine (parts_any w8 ya (n + 1) yc YS HY.out.2.2.1 hyc HY.out.1).mono ?_
          rintro e w9 ⟨la, lc, LS, rfl, hOL, hLS, hc9⟩
          rw [HY.out.2.1, HM.out.2.1] at hLS
          have hln : LS.length = pn + 1 := by have := congrArg List.length hLS; rw [List.length_map, List.length_append, ← HM.out.2.2.2.2.2.2.2.2.2.1] at this; exact this
          have hlc := hOL.cap
          have hOLr := hOL.row
          rw [hln] at hlc hOLr ⊢
          have H9 := Lib.hid (And.intro (HY.out.2.2.2.2.2.tr hc9) (And.intro (HY.out.1.keep hc9.kp) (And.intro hOL.rows hOLr)))
          have HLS := Lib.hid (And.intro hLS hln)
          clear hOL hLS hln hc9 hOLr
          go_wp2_with fail
          refine (part_any w9 ya (n + 1) yc YS HY.out.2.2.1 hyc (H9.out.2.1) n (by unfold I64; omega)).mono ?_
          rintro e w10 ⟨rfl, hc10⟩
          rw [HY.out.2.1, HM.out.2.2.2.1]
          have H10 := Lib.hid (And.intro ((H9.out.1).tr hc10) (And.intro ((H9.out.2.1).keep hc10.kp) (And.intro ((H9.out.2.2.1).keep hc10.kp) (hc10.row (H9.out.2.2.2) (fun _ _ => by simp)))))
          clear hc10
          go_wp2_with fail
          refine (rightC_any w10 ya (n + 1) yc YS HY.out.2.2.1 (by omega) (H10.out.2.1)).mono ?_
          rintro e w11 ⟨rfl, hc11⟩
          rw [HY.out.2.1, HM.out.1]
          have H11 := Lib.hid (And.intro ((H10.out.1).tr hc11) (And.intro ((H10.out.2.1).keep hc11.kp) (And.intro ((H10.out.2.2.1).keep hc11.kp) (hc11.row (H10.out.2.2.2) (fun _ _ => by simp)))))
          clear hc11
          go_wp2_with fail
          refine (part_any w11 ya (n + 1) yc YS HY.out.2.2.1 hyc (H11.out.2.1) i (by unfold I64; omega)).mono ?_
          rintro e w12 ⟨rfl, hc12⟩
          rw [HY.out.2.1, HM.out.2.2.1]
          have H12 := Lib.hid (And.intro ((H11.out.1).tr hc12) (And.intro ((H11.out.2.1).keep hc12.kp) (And.intro ((H11.out.2.2.1).keep hc12.kp) (hc12.row (H11.out.2.2.2) (fun _ _ => by simp)))))
          clear hc12
          have hd1 : decide ((pn : Int) ≤ (pi : Int)) = false := decide_eq_false (by omega)
          have hd1b : decide (pn ≤ pi) = false := decide_eq_false (by omega)
          have hd2 : decide (((pn + 1 : Nat) : Int) ≤ (pn : Int)) = false := decide_eq_false (by omega)
          have hd2b : decide ((pn : Int) + 1 ≤ (pn : Int)) = false := decide_eq_false (by omega)
          obtain ⟨b3, o3, ra3, rc3, rfl, k6, k7, k8⟩ := rows_at (H12.out.2.2.1) HLS.out.1 (i := pn) (by rw [HLS.out.2]; omega)
          have hlast : (Cp.partsI X ++ [[(n : Int)]]).getD pn [] = [(n : Int)] := by rw [HM.out.2.2.2.2.2.2.2.2.2.1]; simp
          rw [hlast] at k6 k7 k8
          simp only [List.length_singleton] at k6 k8
          have hone : ((1 : Int) != 1) = false := by decide
          clear hlast k7 k8
          go_wp2_with fail
          clear k6
          refine (ring_any w12 ya (n + 1) yc YS HY.out.2.2.1 hyc (H12.out.2.1) n (by unfold I64; omega)).mono ?_
          rintro e w13 ⟨rfl, hc13⟩
          rw [HY.out.2.1, HM.out.2.2.2.2.2.2.2.2.1]
          have H13 := Lib.hid (And.intro ((H12.out.1).tr hc13) (And.intro ((H12.out.2.1).keep hc13.kp) (And.intro ((H12.out.2.2.1).keep hc13.kp) (hc13.row (H12.out.2.2.2) (fun _ _ => by simp)))))
          clear hc13
          go_wp2_with fail
          refine (leadsC_any w13 ya (n + 1) yc YS HY.out.2.2.1 hyc (H13.out.2.1) n i (by unfold I64; omega) (by unfold I64; omega)).mono ?_
          rintro e w14 ⟨rfl, hc14⟩
          rw [HY.out.2.1, HM.out.2.2.2.2.2.1]
          have H14 := Lib.hid (And.intro ((H13.out.1).tr hc14) (And.intro ((H13.out.2.1).keep hc14.kp) (And.intro ((H13.out.2.2.1).keep hc14.kp) (hc14.row (H13.out.2.2.2) (fun _ _ => by simp)))))
          clear hc14
          go_wp2_with fail
          refine (leadsC_any w14 ya (n + 1) yc YS HY.out.2.2.1 hyc (H14.out.2.1) i n (by unfold I64; omega) (by unfold I64; omega)).mono ?_
          rintro e w15 ⟨rfl, hc15⟩
          rw [HY.out.2.1, HM.out.2.2.2.2.2.2.1]
          have H15 := Lib.hid (And.intro ((H14.out.1).tr hc15) (And.intro ((H14.out.2.1).keep hc15.kp) (And.intro ((H14.out.2.2.1).keep hc15.kp) (hc15.row (H14.out.2.2.2) (fun _ _ => by simp)))))
          clear hc15
          go_wp2_with fail
          refine (parts_any w15 a n c VS H.out.1 (by omega) (H.out.2.1.keep (H15.out.1).kp)).mono ?_
          rintro e wB ⟨pa, pc, PS, rfl, hOP, hPS, hcB⟩
          rw [← H.out.2.2.2.2.1] at hPS
          have hPl : PS.length = pn := by have := congrArg List.length hPS; rw [List.length_map] at this; rw [this, HM.out.2.2.2.2.2.2.2.2.2.1]
          rw [hPl]
          have HB := Lib.hid (And.intro ((H15.out.1).tr hcB) (And.intro ((H15.out.2.1).keep hcB.kp) (And.intro ((H15.out.2.2.1).keep hcB.kp) (And.intro (hcB.row (H15.out.2.2.2) (fun _ _ => by simp)) hOP.rows))))
          have HP := Lib.hid (And.intro hPS hPl)
          clear hOP hPS hPl hcB
          have hw1 : IntKind.i64.wrap ((pn : Int) + 1) = (pn : Int) + 1 := IntWalk.i64_in _ (by omega)
          have hq1 : (((pn : Int) + 1) != ((pn : Int) + 1)) = false := by simp
          go_wp2_with fail
          obtain ⟨rv, hrv⟩ : ∃ rv, rv = Cp.ringI X q := ⟨_, rfl⟩
          obtain ⟨lv, hlv⟩ : ∃ lv, lv = Cp.leadsI X i q := ⟨_, rfl⟩
          have HV := Lib.hid (And.intro hrv hlv)
          clear hrv hlv
          have hrr : (rv != rv) = false := by simp
          have hll : (lv != lv) = false := by simp
          refine (ring_any wB a n c VS H.out.1 (by omega) (H.out.2.1.keep (HB.out.1).kp) q (by unfold I64; omega)).mono ?_
          rintro e w16 ⟨rfl, hc16⟩
          rw [← H.out.2.2.2.2.1, ← HV.out.1]
          have H16 := Lib.hid (And.intro ((HB.out.1).tr hc16) (And.intro ((HB.out.2.1).keep hc16.kp) (And.intro ((HB.out.2.2.1).keep hc16.kp) (And.intro (hc16.row (HB.out.2.2.2.1) (fun _ _ => by simp)) ((HB.out.2.2.2.2).keep hc16.kp)))))
          clear hc16
          go_wp2_with fail
          refine (ring_any w16 ya (n + 1) yc YS HY.out.2.2.1 hyc (H16.out.2.1) q (by unfold I64; omega)).mono ?_
          rintro e w17 ⟨rfl, hc17⟩
          rw [HY.out.2.1, HM.out.2.2.2.2.2.2.2.1, ← HV.out.1]
          have H17 := Lib.hid (And.intro ((H16.out.1).tr hc17) (And.intro ((H16.out.2.1).keep hc17.kp) (And.intro ((H16.out.2.2.1).keep hc17.kp) (And.intro (hc17.row (H16.out.2.2.2.1) (fun _ _ => by simp)) ((H16.out.2.2.2.2).keep hc17.kp)))))
          clear hc17
          go_wp2_with fail
          refine (leadsC_any w17 a n c VS H.out.1 (by omega) (H.out.2.1.keep (H17.out.1).kp) i q (by unfold I64; omega) (by unfold I64; omega)).mono ?_
          rintro e w18 ⟨rfl, hc18⟩
          rw [← H.out.2.2.2.2.1, ← HV.out.2]
          have H18 := Lib.hid (And.intro ((H17.out.1).tr hc18) (And.intro ((H17.out.2.1).keep hc18.kp) (And.intro ((H17.out.2.2.1).keep hc18.kp) (And.intro (hc18.row (H17.out.2.2.2.1) (fun _ _ => by simp)) ((H17.out.2.2.2.2).keep hc18.kp)))))
          clear hc18
          go_wp2_with fail
          refine (leadsC_any w18 ya (n + 1) yc YS HY.out.2.2.1 hyc (H18.out.2.1) i q (by unfold I64; omega) (by unfold I64; omega)).mono ?_
          rintro e w19 ⟨rfl, hc19⟩
          rw [HY.out.2.1, HM.out.2.2.2.2.1, ← HV.out.2]
          have H19 := Lib.hid (And.intro ((H18.out.1).tr hc19) (And.intro ((H18.out.2.1).keep hc19.kp) (And.intro ((H18.out.2.2.1).keep hc19.kp) (And.intro (hc19.row (H18.out.2.2.2.1) (fun _ _ => by simp)) ((H18.out.2.2.2.2).keep hc19.kp)))))
          clear hc19
          go_wp2_with fail
          have hlrow := H19.out.2.2.2.1
          obtain rfl : o3 = 0 := by
            rcases hlrow.2 with ⟨h0, h1⟩ | ⟨g, cap, cur, h0, _⟩
            · simp at h0
            · simp only [Value.slice.injEq, Option.some.injEq, Addr.mk.injEq] at h0
              exact h0.1.2.1
          obtain ⟨nw, hnw⟩ : ∃ nw, nw = (LS.map Is.cell).take pn := ⟨_, rfl⟩
          have hnwl : nw.length = pn * 1 := by rw [hnw, List.length_take, List.length_map, HLS.out.2]; omega
          have hnws : ∀ j u, nw[j]? = some u → (w19.alloc (Obj.cells #[] 26)).drew.cell? ((⟨b3, 0, none⟩ : Addr).add j) = some u := fun j u hj => by
            have hjp : j < pn := by
              rcases Nat.lt_or_ge j pn with h | h
              · exact h
              · rw [List.getElem?_eq_none (by omega)] at hj; cases hj
            rw [hnw, List.getElem?_take, if_pos hjp] at hj
            rw [Addr.add_lit, Nat.zero_add]
            have h1 := (row_put hlrow (i := j) (by omega)).1
            rw [hj] at h1
            exact ((Chg.refl [] w19).alloc _).drew.cell h1 (by simp)
          have hnw1 : ∀ u ∈ nw, u.oneCell' = true := fun u hu => by
            rw [hnw] at hu
            obtain ⟨p, _, rfl⟩ := List.mem_map.1 (List.mem_of_mem_take hu); rfl
          have hown0 : (w19.alloc (Obj.cells #[] 26)).drew.ownsRow 0 26 1 (.slice (some ⟨w19.heap.size, 0, none⟩) 0 0) 0 [] := by
            have h0 := heap_alloc_same w19 (Obj.cells #[] 26)
            exact ⟨rfl, .inr ⟨w19.heap.size, 0, #[], rfl, Nat.zero_le _, h0, Nat.le_refl _, Nat.zero_le _, rfl, rfl⟩⟩
          have hp63 : 0 + pn ≤ maxLen ∧ (0 + pn) * 24 ≤ 140737488355328 ∧ pn + 0 ≤ maxLen ∧ (pn + 0) * 24 ≤ 140737488355328 := by simp only [maxLen]; omega
          have HE := Lib.hid (And.intro hown0 (And.intro hnwl (And.intro hnws (And.intro hnw1 (And.intro hp63 (And.intro hnw hlrow))))))
          clear hown0 hnwl hnws hnw1 hp63 hnw hlrow hq1
          have hpn1 : ¬ pn + 1 = 0 := by omega
          have hpn0 : ¬ pn = 0 := by omega
          have hplc : pn ≤ lc := by omega
          have hle1 : (pn : Int) ≤ (pn : Int) + 1 := by omega
          have hle2 : (pn : Int) ≤ (lc : Int) := by omega
          have hle3 : (0 : Int) ≤ (pn : Int) + 1 := by omega
          have hss : pn + 1 - (pn + 1) = 0 := by omega
          by_cases hroom : lc = pn + 1
          · subst hroom
            go_region_law (first | (refine step_append_row rfl _ _ 22 rfl 26 iN _ 1 24 Try.underlying22 hiN hz0 hz1 hz2 rfl (by decide) (.slice (some ⟨w19.heap.size, 0, none⟩) 0 0) 0 [] rfl HE.out.1 ⟨b3, 0, none⟩ pn _ nw rfl HE.out.2.1 HE.out.2.2.1 HE.out.2.2.2.1 HE.out.2.2.2.2.1.1 HE.out.2.2.2.2.1.2.1 ?_; intro a5 c5 w5' hr5 hg5 hk5; simp only [Nat.zero_add, List.nil_append] at hr5 hk5; have HX5 := Lib.hid (And.intro hr5 (And.intro hg5 hk5)); clear hr5 hg5 hk5) | (refine step_append_row rfl _ _ 22 rfl 26 iN _ 1 24 Try.underlying22 hiN hz0 hz1 hz2 rfl (by decide) (.slice a5 pn c5) pn nw rfl HX5.out.1 _ 0 _ [] rfl rfl (by simp) (by simp) HE.out.2.2.2.2.1.2.2.1 HE.out.2.2.2.2.1.2.2.2 ?_; intro a6 c6 w6' hr6 hg6 hk6; simp only [Nat.add_zero, List.append_nil] at hr6 hk6; have HX6 := Lib.hid (And.intro hr6 (And.intro hg6 hk6)); clear hr6 hg6 hk6))
            all_goals
              obtain ⟨hr5, hg5, hk5⟩ := HX5.out
              obtain ⟨hr6, hg6, hk6⟩ := HX6.out
              have hc56 : Chg [] w19 w6' := by
                refine ((((Chg.refl [] w19).alloc _).drew).grown hg5 (fun j hj => .inr ?_)).grown hg6 (fun j hj => .inr ?_)
                · simp [Value.ownBlock] at hj
                  omega
                · rcases hk5 with e | e
                  · rw [e] at hj
                    simp [Value.ownBlock] at hj
                    omega
                  · rw [e] at hj
                    have h1 : w19.heap.size ≤ (w19.alloc (Obj.cells #[] 26)).drew.heap.size := (((Chg.refl [] w19).alloc _).drew).size
                    simp only [Option.some.injEq] at hj
                    omega
              have hR6 : IntRows w6' a6 (LS.take pn) := by
                refine rows_of_own (n := pn) (c := c6) (B := 0) (by rw [List.length_take, HLS.out.2]; omega) ?_ (fun p hp => ?_)
                · have := hr6
                  rw [HE.out.2.2.2.2.2.1, ← List.map_take] at this
                  exact this
                · obtain ⟨j, hj, hjp⟩ := List.getElem_of_mem (List.mem_of_mem_take hp)
                  obtain ⟨-, -, -, -, q1, q2⟩ := ((H19.out.2.2.1).keep hc56.kp) j hj
                  rw [hjp] at q1 q2
                  exact ⟨q1, q2⟩
              have HF := Lib.hid (And.intro hR6 hc56)
              clear hr5 hg5 hk5 hr6 hg6 hk6 hR6 hc56
              go_wp2_with fail
              refine (sameIntRows_any w6' a6 pa pn c6 pn pc (LS.take pn) PS (by rw [List.length_take, HLS.out.2]; omega) HP.out.2.symm (by omega) (by omega) HF.out.1 ((H19.out.2.2.2.2).keep HF.out.2.kp)).mono ?_
              rintro e wZ ⟨rfl, hcZ⟩
              have hEq : (LS.take pn).map (·.2.2) = PS.map (·.2.2) := by
                rw [List.map_take, HLS.out.1, HP.out.1, HM.out.2.2.2.2.2.2.2.2.2.1, List.take_left']
                rfl
              rw [decide_eq_true hEq]
              have HZ := Lib.hid hcZ
              clear hcZ hEq
              go_wp2_with fail
              go_ret
              exact ⟨rfl, ((H19.out.1).tr HF.out.2).tr HZ.out⟩
          · have hroom2 : ¬ pn + 1 = lc := fun e => hroom e.symm
            have hroom3 : ¬ lc - (pn + 1) = 0 := by omega
            go_region_law (first | (refine step_append_row rfl _ _ 22 rfl 26 iN _ 1 24 Try.underlying22 hiN hz0 hz1 hz2 rfl (by decide) (.slice (some ⟨w19.heap.size, 0, none⟩) 0 0) 0 [] rfl HE.out.1 ⟨b3, 0, none⟩ pn _ nw rfl HE.out.2.1 HE.out.2.2.1 HE.out.2.2.2.1 HE.out.2.2.2.2.1.1 HE.out.2.2.2.2.1.2.1 ?_; intro a5 c5 w5' hr5 hg5 hk5; simp only [Nat.zero_add, List.nil_append] at hr5 hk5; have HX5 := Lib.hid (And.intro hr5 (And.intro hg5 hk5)); clear hr5 hg5 hk5) | (refine step_append_row rfl _ _ 22 rfl 26 iN _ 1 24 Try.underlying22 hiN hz0 hz1 hz2 rfl (by decide) (.slice a5 pn c5) pn nw rfl HX5.out.1 _ 0 _ [] rfl rfl (by simp) (by simp) HE.out.2.2.2.2.1.2.2.1 HE.out.2.2.2.2.1.2.2.2 ?_; intro a6 c6 w6' hr6 hg6 hk6; simp only [Nat.add_zero, List.append_nil] at hr6 hk6; have HX6 := Lib.hid (And.intro hr6 (And.intro hg6 hk6)); clear hr6 hg6 hk6))
            all_goals
              obtain ⟨hr5, hg5, hk5⟩ := HX5.out
              obtain ⟨hr6, hg6, hk6⟩ := HX6.out
              have hc56 : Chg [] w19 w6' := by
                refine ((((Chg.refl [] w19).alloc _).drew).grown hg5 (fun j hj => .inr ?_)).grown hg6 (fun j hj => .inr ?_)
                · simp [Value.ownBlock] at hj
                  omega
                · rcases hk5 with e | e
                  · rw [e] at hj
                    simp [Value.ownBlock] at hj
                    omega
                  · rw [e] at hj
                    have h1 : w19.heap.size ≤ (w19.alloc (Obj.cells #[] 26)).drew.heap.size := (((Chg.refl [] w19).alloc _).drew).size
                    simp only [Option.some.injEq] at hj
                    omega
              have hR6 : IntRows w6' a6 (LS.take pn) := by
                refine rows_of_own (n := pn) (c := c6) (B := 0) (by rw [List.length_take, HLS.out.2]; omega) ?_ (fun p hp => ?_)
                · have := hr6
                  rw [HE.out.2.2.2.2.2.1, ← List.map_take] at this
                  exact this
                · obtain ⟨j, hj, hjp⟩ := List.getElem_of_mem (List.mem_of_mem_take hp)
                  obtain ⟨-, -, -, -, q1, q2⟩ := ((H19.out.2.2.1).keep hc56.kp) j hj
                  rw [hjp] at q1 q2
                  exact ⟨q1, q2⟩
              have HF := Lib.hid (And.intro hR6 hc56)
              clear hr5 hg5 hk5 hr6 hg6 hk6 hR6 hc56
              go_wp2_with fail
              refine (sameIntRows_any w6' a6 pa pn c6 pn pc (LS.take pn) PS (by rw [List.length_take, HLS.out.2]; omega) HP.out.2.symm (by omega) (by omega) HF.out.1 ((H19.out.2.2.2.2).keep HF.out.2.kp)).mono ?_
              rintro e wZ ⟨rfl, hcZ⟩
              have hEq : (LS.take pn).map (·.2.2) = PS.map (·.2.2) := by
                rw [List.map_take, HLS.out.1, HP.out.1, HM.out.2.2.2.2.2.2.2.2.2.1, List.take_left']
                rfl
              rw [decide_eq_true hEq]
              have HZ := Lib.hid hcZ
              clear hcZ hEq
              go_wp2_with fail
              go_ret
              exact ⟨rfl, ((H19.out.1).tr HF.out.2).tr HZ.out⟩
end Go.Proofs.Ytplpboknmhgpiaa

/-
  CompTurn: for every graph and two numbers the law returns true.
  Conditions: the rows read as data.
-/
import Derived.Test.YtplpboknmhgpiaaCEdCpAw
import Derived.Test.YtplpboknmhgpiaaCEdCpOpen
import Derived.Test.YtplpboknmhgpiaaCEdGKit
set_option linter.unusedVariables false
set_option linter.unusedSimpArgs false
set_option linter.unnecessarySimpa false
namespace Go.Proofs.Ytplpboknmhgpiaa
open Go.RowKit Go.MapKept Go.Shelf

theorem OwnIs.cap {B : Nat} {w : World} {a : Option Addr} {c : Nat} {VS : List Is} (h : OwnIs B w a c VS) : VS.length ≤ c ∧ c ≤ 9223372036854775807 := by
  rcases h.row.2 with ⟨h0, h1⟩ | ⟨g, cap, cur, h0, _, _, h3, h4, _⟩
  · simp only [Value.slice.injEq] at h0; omega
  · simp only [Value.slice.injEq] at h0
    simp only [maxLen] at h4
    omega
/-- A row of a table, opened. -/
theorem rows_at {w : World} {a : Option Addr} {VS : List Is} (h : IntRows w a VS) {X : List (List Int)} (hX : VS.map (·.2.2) = X) {i : Nat} (hi : i < VS.length) :
    ∃ b o ra rc, a = some ⟨b, o, none⟩ ∧ w.cell? ⟨b, o + i, none⟩ = some (.slice ra (X.getD i []).length rc) ∧ Ints w ra (X.getD i []) ∧ (X.getD i []).length ≤ 9223372036854775807 := by
  obtain ⟨b, o, e, hcl, hz, hl⟩ := h i hi
  obtain ⟨ra, rc, zs, hVi⟩ : ∃ ra rc zs, VS[i] = (ra, rc, zs) := ⟨_, _, _, rfl⟩
  have hzs : X.getD i [] = zs := by
    rw [← hX, List.getD, List.getElem?_map, List.getElem?_eq_getElem hi, hVi]; rfl
  rw [hVi] at hcl hz hl
  dsimp only at hz hl
  rw [Is.cell] at hcl
  dsimp only at hcl
  rw [hzs]
  exact ⟨b, o, ra, rc, e, hcl, hz, hl⟩
theorem ints_at {w : World} {a : Option Addr} {zs : List Int} (h : Ints w a zs) {i : Nat} {z : Int} (hz : zs[i]? = some z) : ∃ b o, a = some ⟨b, o, none⟩ ∧ w.cell? ⟨b, o + i, none⟩ = some (.int .i64 z) ∧ i < zs.length := by
  have hi : i < zs.length := by
    rcases Nat.lt_or_ge i zs.length with k | k
    · exact k
    · rw [List.getElem?_eq_none k] at hz; cases hz
  obtain ⟨b, o, e, hc⟩ := h i hi
  rw [List.getElem?_eq_getElem hi] at hz
  simp only [Option.some.injEq] at hz
  rw [hz] at hc
  exact ⟨b, o, e, hc, hi⟩

set_option maxRecDepth 100000 in
set_option maxHeartbeats 16000000 in
theorem compTurnL_any (w : World) (a : Option Addr) (n c : Nat) (VS : List Is) (hn : n = VS.length) (hc : n ≤ c) (hm : c ≤ 9223372036854775807) (hd : IntRows w a VS) (hw : ∀ p ∈ VS, ∀ z ∈ p.2.2, I64 z) (hb : n ≤ 17592186044416) (ht : ∀ p ∈ VS, p.2.2.length ≤ 17592186044416) (z1 z2 : Int) (i1 : I64 z1) (i2 : I64 z2) :
    Calls Try.prog 8 #[.slice a n c, .int .i64 z1, .int .i64 z2] w fun e w' => e = .returned (.bool true) ∧ Chg [] w w' := by
  obtain ⟨X, hX⟩ : ∃ X, X = VS.map (·.2.2) := ⟨_, rfl⟩
  have hnX : n = X.length := by rw [hn, hX, List.length_map]
  have H := Lib.hid (And.intro hn (And.intro hd (And.intro hw (And.intro ht (And.intro hX hnX)))))
  clear hn hd hw ht hX hnX
  go_enter Try.func8, Try.ntmps8
  go_wp2_with fail
  refine (awake13_any w).mono ?_
  rintro e w1 ⟨rfl, hc1⟩
  have H1 := Lib.hid hc1
  clear hc1
  go_wp2_with fail
  refine (great_any w1 a n c VS H.out.1 hb H.out.2.2.2.1 (H.out.2.1.keep H1.out.kp)).mono ?_
  rintro e w2 ⟨rfl, hc2⟩
  rw [← H.out.2.2.2.2.1]
  obtain ⟨g, hg⟩ : ∃ g, g = greatI X := ⟨_, rfl⟩
  rw [← hg]
  have H2 := Lib.hid (And.intro hg (H1.out.tr hc2))
  clear hg hc2
  cases g with
  | true =>
    go_wp2_with fail
    go_ret
    exact ⟨rfl, H2.out.2⟩
  | false =>
    have hn600 : n ≤ 600 := by have := (great_small H2.out.1.symm).1; have := H.out.2.2.2.2.2; omega
    go_wp2_with fail
    refine (compTurn_any w2 a n c VS H.out.1 (by omega) (H.out.2.1.keep H2.out.2.kp)).mono ?_
    rintro e w3 ⟨ta, tc, TS, rfl, hOT, hTS, hc3⟩
    rw [← H.out.2.2.2.2.1] at hTS
    have htc := hOT.cap
    obtain ⟨tn, htn⟩ : ∃ tn, tn = TS.length := ⟨_, rfl⟩
    rw [← htn] at htc ⊢
    have H3 := Lib.hid (And.intro hOT.rows (And.intro hTS (And.intro htn (H2.out.2.tr hc3))))
    clear hOT hTS htn hc3
    go_wp2_with fail
    refine (rightC_any w3 a n c VS H.out.1 (by omega) (H.out.2.1.keep H3.out.2.2.2.kp)).mono ?_
    rintro e w4 ⟨rfl, hc4⟩
    rw [← H.out.2.2.2.2.1]
    obtain ⟨r, hr⟩ : ∃ r, r = Cp.rightI X := ⟨_, rfl⟩
    rw [← hr]
    have H4 := Lib.hid (And.intro hr (H3.out.2.2.2.tr hc4))
    have H3r := Lib.hid (H3.out.1.keep hc4.kp)
    clear hr hc4
    cases r with
    | false =>
      have ht0 : tn = 0 := by
        have := congrArg List.length H3.out.2.1
        rw [List.length_map, ← H3.out.2.2.1] at this
        rw [this]; unfold Cp.turnI; rw [← H4.out.1]; rfl
      subst ht0
      go_wp2_with fail
      go_ret
      exact ⟨rfl, H4.out.2⟩
    | true =>
      have hr := H4.out.1.symm
      obtain ⟨T, hT⟩ : ∃ T, T = Cp.turnI X := ⟨_, rfl⟩
      obtain ⟨-, hrT, -, hTl⟩ := Cp.turnI_right hr
      have hTT := Cp.turnI_turn hr
      have hTS : TS.map (·.2.2) = T := by rw [hT]; exact H3.out.2.1
      rw [← hT] at hrT hTl hTT
      have htn : tn = n := by rw [H3.out.2.2.1, H.out.2.2.2.2.2, ← hTl, ← hTS, List.length_map]
      subst htn
      have HT := Lib.hid (And.intro hr (And.intro hT (And.intro hrT (And.intro hTT (And.intro hTS H3.out.2.2.1)))))
      clear hr hT hrT hTl hTT hTS
      go_wp2_with fail
      refine (rightC_any w4 ta tn tc TS HT.out.2.2.2.2.2 (by omega) H3r.out).mono ?_
      rintro e w5 ⟨rfl, hc5⟩
      rw [HT.out.2.2.2.2.1, HT.out.2.2.1]
      have H5 := Lib.hid (And.intro (H4.out.2.tr hc5) (H3r.out.keep hc5.kp))
      clear hc5
      go_wp2_with fail
      refine (compTurn_any w5 ta tn tc TS HT.out.2.2.2.2.2 htc H5.out.2).mono ?_
      rintro e w6 ⟨ua, uc, US, rfl, hOU, hUS, hc6⟩
      rw [HT.out.2.2.2.2.1, HT.out.2.2.2.1] at hUS
      have huc := hOU.cap
      obtain ⟨un, hun⟩ : ∃ un, un = US.length := ⟨_, rfl⟩
      rw [← hun] at huc ⊢
      have H6 := Lib.hid (And.intro (H5.out.1.tr hc6) (And.intro (H5.out.2.keep hc6.kp) (And.intro hOU.rows (And.intro hUS hun))))
      clear hOU hUS hun hc6
      go_wp2_with fail
      refine (sameIntRows_any w6 ua a un uc tn c US VS H6.out.2.2.2.2 H.out.1 (by omega) (by omega) H6.out.2.2.1 (H.out.2.1.keep H6.out.1.kp)).mono ?_
      rintro e w7 ⟨rfl, hc7⟩
      rw [H6.out.2.2.2.1, ← H.out.2.2.2.2.1, show decide (X = X) = true from decide_eq_true rfl]
      have H7 := Lib.hid (And.intro (H6.out.1.tr hc7) (H6.out.2.1.keep hc7.kp))
      clear hc7
      go_wp2_with fail
      refine (leadsC_any w7 a tn c VS H.out.1 (by omega) (H.out.2.1.keep H7.out.1.kp) z1 z2 i2 i1).mono ?_
      rintro e w8 ⟨rfl, hc8⟩
      rw [← H.out.2.2.2.2.1]
      obtain ⟨lv, hlv⟩ : ∃ lv, lv = Cp.leadsI X z1 z2 := ⟨_, rfl⟩
      rw [← hlv]
      have H8 := Lib.hid (And.intro (H7.out.1.tr hc8) (And.intro (H7.out.2.keep hc8.kp) hlv))
      clear hc8 hlv
      go_wp2_with fail
      refine (leadsC_any w8 ta tn tc TS HT.out.2.2.2.2.2 htc H8.out.2.1 z2 z1 i1 i2).mono ?_
      rintro e w9 ⟨rfl, hc9⟩
      rw [HT.out.2.2.2.2.1, HT.out.2.1, Cp.turn_leads HT.out.1, ← H8.out.2.2]
      have H9 := Lib.hid (And.intro (H8.out.1.tr hc9) (H8.out.2.1.keep hc9.kp))
      have hll : (lv != lv) = false := by simp
      clear hc9
      go_wp2_with fail
      refine (parts_any w9 a tn c VS H.out.1 (by omega) (H.out.2.1.keep H9.out.1.kp)).mono ?_
      rintro e wA ⟨pa, pc, PS, rfl, hOP, hPS, hcA⟩
      rw [← H.out.2.2.2.2.1] at hPS
      obtain ⟨pn, hpn⟩ : ∃ pn, pn = PS.length := ⟨_, rfl⟩
      rw [← hpn]
      have HA := Lib.hid (And.intro (H9.out.1.tr hcA) (And.intro (H9.out.2.keep hcA.kp) (And.intro hOP.rows (And.intro hPS hpn))))
      clear hOP hPS hpn hcA
      have hpn64 : pn ≤ 64 := by
        have h2 := congrArg List.length HA.out.2.2.2.1
        rw [List.length_map, ← HA.out.2.2.2.2] at h2
        have h3 := (Cp.place_small (Cp.right_RG HT.out.1) 0).2.2
        unfold Cp.partsI at h2
        rw [HT.out.1, if_pos rfl, Cp.intsG_len] at h2
        omega
      go_wp2_with fail
      refine (parts_any wA ta tn tc TS HT.out.2.2.2.2.2 htc HA.out.2.1).mono ?_
      rintro e wB ⟨qa, qc, QS, rfl, hOQ, hQS, hcB⟩
      rw [HT.out.2.2.2.2.1, HT.out.2.1] at hQS
      have hqn : QS.length = pn := by
        have h1 := congrArg List.length hQS
        have h2 := congrArg List.length HA.out.2.2.2.1
        rw [List.length_map, Cp.turn_parts HT.out.1] at h1
        rw [List.length_map] at h2
        rw [h1, ← h2]; exact HA.out.2.2.2.2.symm
      rw [hqn]
      have HB := Lib.hid (And.intro (HA.out.1.tr hcB) (And.intro (HA.out.2.1.keep hcB.kp) (And.intro (HA.out.2.2.1.keep hcB.kp) (And.intro hOQ.rows (And.intro hQS hqn)))))
      clear hOQ hQS hqn hcB
      have hpp : ((pn : Int) != (pn : Int)) = false := by simp
      go_wp2_with fail
      go_loopg [10] pn (fun d iv wr => ∃ i : Nat, d = pn - i ∧ i ≤ pn ∧ iv = .int .i64 i ∧ Hid (Chg [] wB wr))
      case atStart => exact ⟨0, rfl, Nat.zero_le _, rfl, Lib.hid (Chg.refl _ _)⟩
      case round =>
        obtain ⟨i, rfl, hi, rfl, hin⟩ := hrel
        obtain ⟨wq, rfl⟩ : ∃ wz, wz = wr := ⟨_, rfl⟩
        by_cases hlt : i < pn
        · have hiP : i < (Cp.partsI X).length := by
            have h2 := congrArg List.length HA.out.2.2.2.1
            rw [List.length_map] at h2
            have := HA.out.2.2.2.2
            omega
          obtain ⟨cn, q, hcn, hq, hc0, hpt, hsame, hring⟩ := Cp.turn_part HT.out.1 hiP
          obtain ⟨b1, o1, ra1, rc1, rfl, k1, k2, k3⟩ := rows_at (HB.out.2.2.1.keep hin.out.kp) HA.out.2.2.2.1 (i := i) (by rw [← HA.out.2.2.2.2]; exact hlt)
          obtain ⟨b2, o2, rfl, k4, k5⟩ := ints_at k2 hc0
          rw [Nat.add_zero] at k4
          obtain ⟨l1, hl1⟩ : ∃ l1, l1 = (Cp.partsI X).getD i [] := ⟨_, rfl⟩
          rw [← hl1] at k1 k2 k3 k5 hsame
          have hqQ : q < QS.length := by
            have h1 := congrArg List.length HB.out.2.2.2.2.1
            rw [List.length_map] at h1
            omega
          obtain ⟨b3, o3, ra3, rc3, rfl, k6, k7, k8⟩ := rows_at (HB.out.2.2.2.1.keep hin.out.kp) HB.out.2.2.2.2.1 hqQ
          rw [hsame] at k6 k7 k8
          obtain ⟨ll, hll2⟩ : ∃ ll, ll = l1.length := ⟨_, rfl⟩
          rw [← hll2] at k1 k3 k5 k6
          have hqp : q < pn := by rw [HB.out.2.2.2.2.2] at hqQ; exact hqQ
          have hpart := part_any wq ta tn tc TS HT.out.2.2.2.2.2 htc (HB.out.2.1.keep hin.out.kp) cn (by have := H.out.2.2.2.2.2; unfold I64; omega)
          rw [HT.out.2.2.2.2.1, HT.out.2.1, hpt] at hpart
          have HC := Lib.hid (And.intro hpart (And.intro k2 (And.intro k7 (And.intro hll2 (And.intro hring hcn)))))
          clear hpart k2 k7 hll2 hring hsame hpt hc0 hq hqQ hiP hl1 hcn
          go_wp2_with fail
          refine HC.out.1.mono ?_
          rintro e wC ⟨rfl, hcC⟩
          have k1 := hcC.cell k1 (by simp)
          have k4 := hcC.cell k4 (by simp)
          have k6 := hcC.cell k6 (by simp)
          have cI := calls_rg (w := wC) (fun w1' h1 => sameInts_any w1' (some ⟨b2, o2, none⟩) ra3 ll rc1 ll rc3 l1 l1 HC.out.2.2.2.1 HC.out.2.2.2.1 k3 (HC.out.2.1.keep (hcC.tr h1).kp) (HC.out.2.2.1.keep (hcC.tr h1).kp))
          rw [show decide (l1 = l1) = true from decide_eq_true rfl] at cI
          obtain ⟨rv, hrv⟩ : ∃ rv, rv = Cp.ringI X cn := ⟨_, rfl⟩
          have cR := calls_rg (w := wC) (fun w1' h1 => ring_any w1' a tn c VS H.out.1 (by omega) (H.out.2.1.keep (((HB.out.1.tr hin.out).tr hcC).tr h1).kp) cn (by have := HC.out.2.2.2.2.2; have := H.out.2.2.2.2.2; unfold I64; omega))
          rw [← H.out.2.2.2.2.1, ← hrv] at cR
          have cS := calls_rg (w := wC) (fun w1' h1 => ring_any w1' ta tn tc TS HT.out.2.2.2.2.2 htc (HB.out.2.1.keep ((hin.out.tr hcC).tr h1).kp) cn (by have := HC.out.2.2.2.2.2; have := H.out.2.2.2.2.2; unfold I64; omega))
          rw [HT.out.2.2.2.2.1, HT.out.2.1, HC.out.2.2.2.2.1, ← hrv] at cS
          have HD := Lib.hid hcC
          clear hcC hrv
          have hd1 : decide ((q : Int) < 0) = false := decide_eq_false (by omega)
          have hd2 : decide ((pn : Int) ≤ (q : Int)) = false := decide_eq_false (by omega)
          have hd3 : decide (pn ≤ q) = false := decide_eq_false (by omega)
          have hrr : (rv != rv) = false := by simp
          have y1 := cell_rg k1
          have y4 := cell_rg k4
          have y6 := cell_rg k6
          clear k1 k4 k6
          go_wp2_with fail
          refine wp_region_quiet_below (by kernel_rfl) (by kernel_rfl) ?_
          (repeat (go_big_quiet_step (first | (with_reducible exact cI _ _) | (with_reducible exact cR _ _) | (with_reducible exact cS _ _))))
          refine wpQuiet_nil ?_
          intro wD hwD
          have hcD := chg_of_rg hwD
          clear hwD cI cR cS y1 y4 y6
          go_wp2_with fail
          go_roundg (pn - (i + 1))
          case measure => omega
          case rel => exact ⟨i + 1, rfl, by omega, by go_num, Lib.hid ((hin.out.tr HD.out).tr hcD)⟩
        · obtain rfl : pn = i := by omega
          go_wp2_with fail
          go_ret
          exact ⟨rfl, HB.out.1.tr hin.out⟩
end Go.Proofs.Ytplpboknmhgpiaa

/-
  Whether a number leads on to another one; whether a part may be put, by the document.
  Conditions: the rows read as data.
-/
import Derived.Test.YtplpboknmhgpiaaCEdCpRl
set_option linter.unusedVariables false
set_option linter.unusedSimpArgs false
set_option linter.unnecessarySimpa false
namespace Go.Proofs.Ytplpboknmhgpiaa
open Go.RowKit Go.MapKept Go.Shelf

theorem MatB.chgw {w0 W : World} {n k : Nat} {oa : Option Addr} {oc : Nat} {gs : List Nat} {f : Nat → Nat → Bool} (h : MatB w0 n k oa oc gs f W) : Chg [] w0 W := h.chg

set_option maxRecDepth 100000 in
set_option maxHeartbeats 8000000 in
theorem refLeadsB_any (w : World) (ga : Option Addr) (n gc : Nat) (VG : List Is) (hn : n = VG.length) (hgc : n ≤ gc ∧ gc ≤ 9223372036854775807) (hx : IntRows w ga VG) (x y : Int) (hxx : I64 x) (hyy : I64 y) :
    Calls Try.prog 35 #[.slice ga n gc, .int .i64 x, .int .i64 y] w fun e w' => e = .returned (.bool (Cp.leadsI (VG.map (·.2.2)) x y)) ∧ Chg [] w w' := by
  obtain ⟨X, hX⟩ : ∃ X, X = VG.map (·.2.2) := ⟨_, rfl⟩
  rw [← hX]
  obtain ⟨R, hR⟩ : ∃ R, R = Cp.leadsI X x y := ⟨_, rfl⟩
  rw [← hR]
  have hnX : n = X.length := by rw [hn, hX, List.length_map]
  obtain ⟨r1, hr1⟩ : ∃ r1, r1 = Cp.rightI X := ⟨_, rfl⟩
  have hRt := rightR_any w ga n gc VG hn (by omega) hx
  rw [← hX, ← hr1] at hRt
  have H := Lib.hid (And.intro hn (And.intro hx (And.intro hX (And.intro hR (And.intro hr1 (And.intro hRt hnX))))))
  clear hn hx hX hR hr1 hRt hnX
  go_enter Try.func35, Try.ntmps35
  go_wp2_with fail
  refine H.out.2.2.2.2.2.1.mono ?_
  rintro e w1 ⟨rfl, hc1⟩
  have H1 := Lib.hid hc1
  clear hc1
  cases r1 with
  | false =>
    go_wp2_with fail
    go_ret
    refine ⟨ret_bool (a := false) ?_, H1.out⟩
    rw [H.out.2.2.2.1]; unfold Cp.leadsI
    rw [← H.out.2.2.2.2.1]; rfl
  | true =>
    have hfalse : (Cp.numI X x = false ∨ Cp.numI X y = false) → R = false := fun h => by
      rw [H.out.2.2.2.1]; unfold Cp.leadsI
      rcases h with h | h
      · rw [h]; simp
      · rw [h]; simp
    have hnum : ∀ z : Int, (z < 0 ∨ (n : Int) ≤ z) → Cp.numI X z = false := fun z h => by
      unfold Cp.numI
      rw [← H.out.2.2.2.2.2.2]
      rcases h with h | h <;> simp <;> omega
    have HF := Lib.hid (And.intro hfalse hnum)
    clear hfalse hnum
    by_cases h1 : x < 0
    · go_wp2_with fail
      go_ret
      exact ⟨ret_bool (a := false) (HF.out.1 (.inl (HF.out.2 x (.inl h1)))).symm, H1.out⟩
    · by_cases h2 : (n : Int) ≤ x
      · go_wp2_with fail
        go_ret
        exact ⟨ret_bool (a := false) (HF.out.1 (.inl (HF.out.2 x (.inr h2)))).symm, H1.out⟩
      · by_cases h3 : y < 0
        · go_wp2_with fail
          go_ret
          exact ⟨ret_bool (a := false) (HF.out.1 (.inr (HF.out.2 y (.inl h3)))).symm, H1.out⟩
        · by_cases h4 : (n : Int) ≤ y
          · go_wp2_with fail
            go_ret
            exact ⟨ret_bool (a := false) (HF.out.1 (.inr (HF.out.2 y (.inr h4)))).symm, H1.out⟩
          · obtain ⟨a, rfl⟩ : ∃ a : Nat, x = (a : Int) := ⟨x.toNat, by omega⟩
            obtain ⟨b, rfl⟩ : ∃ b : Nat, y = (b : Int) := ⟨y.toNat, by omega⟩
            have han : a < n := by omega
            have hbn : b < n := by omega
            have hr := H.out.2.2.2.2.1.symm
            have hRG := Cp.right_RG hr
            obtain ⟨G, hG⟩ : ∃ G, G = Cp.toG X := ⟨_, rfl⟩
            have hnG : n = G.length := by rw [hG, Cp.toG_len]; exact H.out.2.2.2.2.2.2
            have hVG : VG.map (·.2.2) = Cp.intsG G := by rw [← H.out.2.2.1, hG, Cp.ints_toG hr]
            rw [← hG] at hRG
            have hl := refLeads_any w1 ga n gc VG G hRG hnG hVG (H.out.2.1.keep H1.out.kp) hgc
            have hRe : R = Cp.wB G n a b := by
              rw [H.out.2.2.2.1]; unfold Cp.leadsI
              rw [hr, Cp.numI_nat (by rw [← H.out.2.2.2.2.2.2]; exact han), Cp.numI_nat (by rw [← H.out.2.2.2.2.2.2]; exact hbn), ← H.out.2.2.2.2.2.2, ← hG]; simp
            have HL := Lib.hid (And.intro hl hRe)
            clear hr hRG hG hnG hVG hl hRe
            go_wp2_with fail
            refine HL.out.1.mono ?_
            rintro e w2 ⟨oa, oc, gs, rfl, hM⟩
            obtain ⟨go, g, rfl, hg, -, xo, ho1, ho2, -, hgb⟩ := hM.read han
            have xv := rowB_getF hgb hbn
            rw [← HL.out.2] at xv
            have HM := Lib.hid hM.chg
            clear hM hg hgb
            go_wp2_with fail
            go_ret
            exact ⟨rfl, H1.out.tr HM.out⟩

set_option maxRecDepth 100000 in
set_option maxHeartbeats 8000000 in
/-- May a number's part be put next? -/
theorem refOpen_any (w0 w : World) (n : Nat) (G : List (List Nat)) (hn : n = G.length) (hn64 : n ≤ 64) (oa : Option Addr) (oc : Nat) (gs : List Nat) (hM : MatB w0 n n oa oc gs (Cp.wB G n) w) (pb pc : Nat) (hpc : n ≤ pc ∧ pc ≤ 9223372036854775807) (put : Nat → Bool) (hp : w.heap[pb]? = some (rowB ((List.range n).map put))) (a : Nat) (ha : a < n) :
    Calls Try.prog 49 #[.slice oa n oc, .slice (some ⟨pb, 0, none⟩) n pc, .int .i64 a] w fun e w' => e = .returned (.bool (Cp.openR G put a)) ∧ Chg [] w w' := by
  obtain ⟨R, hR⟩ : ∃ R, R = Cp.openR G put a := ⟨_, rfl⟩
  rw [← hR]
  have hR2 : R = (!put a && (List.range n).all (fun k => !(Cp.wB G n a k && !put k && !Cp.wB G n k a))) := by rw [hR, hn]; rfl
  obtain ⟨go, ga', rfl, hga, -, xo, ho1, ho2, -, hgb⟩ := hM.read ha
  have xp := rowB_getF hp ha
  obtain ⟨pa, hpa⟩ : ∃ pa, pa = put a := ⟨_, rfl⟩
  rw [← hpa] at xp
  have H := Lib.hid (And.intro hn (And.intro hM (And.intro hp (And.intro hR2 (And.intro hpa (And.intro hga hgb))))))
  clear hn hM hp hR hR2 hpa hga hgb
  go_enter Try.func49, Try.ntmps49
  cases pa with
  | true =>
    go_wp2_with fail
    go_ret
    refine ⟨ret_bool (a := false) ?_, Chg.refl _ _⟩
    rw [H.out.2.2.2.1, ← H.out.2.2.2.2.1]; rfl
  | false =>
    go_wp2_with fail
    clear xp
    go_loopg [7] n (fun d kv wr => ∃ k : Nat, d = n - k ∧ k ≤ n ∧ kv = .int .i64 k ∧ Hid ((∀ j, j < k → (Cp.wB G n a j && !put j && !Cp.wB G n j a) = false) ∧ Chg [] w wr))
    case atStart => exact ⟨0, rfl, Nat.zero_le _, rfl, Lib.hid ⟨fun j h => absurd h (Nat.not_lt_zero _), Chg.refl _ _⟩⟩
    case round =>
      obtain ⟨k, rfl, hk, rfl, hin⟩ := hrel
      obtain ⟨wq, rfl⟩ : ∃ wz, wz = wr := ⟨_, rfl⟩
      by_cases hlt : k < n
      · have xo1 := hin.out.2.cell xo (by simp)
        have xv1 := rowB_getF (hin.out.2.heap H.out.2.2.2.2.2.2 (by simp)) hlt
        have xp1 := rowB_getF (hin.out.2.heap H.out.2.2.1 (by simp)) hlt
        obtain ⟨go', gk, ego, hgk, -, xo2, -, -, -, hgb2⟩ := (H.out.2.1.chg0 hin.out.2).read hlt
        obtain rfl : go = go' := by simpa using ego
        have xv2 := rowB_getF hgb2 ha
        obtain ⟨c1, hc1⟩ : ∃ c, c = Cp.wB G n a k := ⟨_, rfl⟩
        obtain ⟨c2, hc2⟩ : ∃ c, c = put k := ⟨_, rfl⟩
        obtain ⟨c3, hc3⟩ : ∃ c, c = Cp.wB G n k a := ⟨_, rfl⟩
        rw [← hc1] at xv1
        rw [← hc2] at xp1
        rw [← hc3] at xv2
        have HC := Lib.hid (And.intro hc1 (And.intro hc2 hc3))
        clear hc1 hc2 hc3 hgk hgb2 ego
        have hnext : (c1 && !c2 && !c3) = false → ∀ j, j < k + 1 → (Cp.wB G n a j && !put j && !Cp.wB G n j a) = false := fun hh j hj => by
          rcases Nat.lt_or_ge j k with h | h
          · exact hin.out.1 j h
          · obtain rfl : j = k := by omega
            rw [← HC.out.1, ← HC.out.2.1, ← HC.out.2.2]; exact hh
        have HX := Lib.hid hnext
        clear hnext
        cases c1 with
        | false =>
          go_wp2_with fail
          go_roundg (n - (k + 1))
          case measure => omega
          case rel => exact ⟨k + 1, rfl, by omega, by go_num, Lib.hid ⟨HX.out rfl, hin.out.2⟩⟩
        | true =>
          cases c2 with
          | true =>
            go_wp2_with fail
            go_roundg (n - (k + 1))
            case measure => omega
            case rel => exact ⟨k + 1, rfl, by omega, by go_num, Lib.hid ⟨HX.out rfl, hin.out.2⟩⟩
          | false =>
            cases c3 with
            | true =>
              go_wp2_with fail
              go_roundg (n - (k + 1))
              case measure => omega
              case rel => exact ⟨k + 1, rfl, by omega, by go_num, Lib.hid ⟨HX.out rfl, hin.out.2⟩⟩
            | false =>
              go_wp2_with fail
              go_ret
              refine ⟨ret_bool (a := false) ?_, hin.out.2⟩
              rw [H.out.2.2.2.1, ← H.out.2.2.2.2.1]
              have : (List.range n).all (fun k => !(Cp.wB G n a k && !put k && !Cp.wB G n k a)) = false := by
                rw [List.all_eq_false]
                exact ⟨k, List.mem_range.2 hlt, by rw [← HC.out.1, ← HC.out.2.1, ← HC.out.2.2]; simp⟩
              rw [this]; rfl
      · obtain rfl : n = k := by omega
        go_wp2_with fail
        go_ret
        refine ⟨ret_bool (a := true) ?_, hin.out.2⟩
        rw [H.out.2.2.2.1, ← H.out.2.2.2.2.1]
        have : (List.range n).all (fun k => !(Cp.wB G n a k && !put k && !Cp.wB G n k a)) = true := by
          rw [List.all_eq_true]
          exact fun j hj => by rw [hin.out.1 j (List.mem_range.1 hj)]; rfl
        rw [this]; rfl
end Go.Proofs.Ytplpboknmhgpiaa

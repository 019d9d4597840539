/-
  A number's part, whether it is a ring, by the document.
  Conditions: the rows read as data.
-/
import Derived.Test.YtlklmpjakeedcaaGreatDoorSOrCpRp
import Derived.Test.YtlklmpjakeedcaaGreatDoorSOrCpE
set_option linter.unusedVariables false
set_option linter.unusedSimpArgs false
set_option linter.unnecessarySimpa false
namespace Go.Proofs.YtlklmpjakeedcaaGreatDoor
open Go.RowKit Go.MapKept Go.Shelf

theorem placeZ_at : ∀ {L : List (List Int)} {a : Int} {i : Nat} (hi : i < L.length), (∀ j, j < i → ∀ l, L[j]? = some l → a ∉ l) → a ∈ L[i] → Cp.placeZ L a = (i : Int) := by
  intro L
  induction L with
  | nil => intro a i hi; simp at hi
  | cons l L ih =>
    intro a i hi h1 h2
    cases i with
    | zero =>
      have h3 : a ∈ l := h2
      unfold Cp.placeZ
      rw [if_pos (by simpa using h3)]; rfl
    | succ i =>
      have h3 : a ∉ l := h1 0 (by omega) l rfl
      have h4 := ih (a := a) (i := i) (by simpa using hi) (fun j hj l' hl' => h1 (j + 1) (by omega) l' (by simpa using hl')) (by simpa using h2)
      unfold Cp.placeZ
      rw [if_neg (by simpa using h3), h4, if_neg (by omega)]
      omega

set_option maxRecDepth 100000 in
set_option maxHeartbeats 8000000 in
theorem refPart_any (w : World) (ga : Option Addr) (n gc : Nat) (VG : List Is) (hn : n = VG.length) (hgc : n ≤ gc ∧ gc ≤ 9223372036854775807) (hx : IntRows w ga VG) (x : Int) :
    Calls Tryz.prog 86 #[.slice ga n gc, .int .i64 x] w fun e w' => e = .returned (.int .i64 (Cp.partI (VG.map (·.2.2)) x)) ∧ Chg [] w w' := by
  obtain ⟨X, hX⟩ : ∃ X, X = VG.map (·.2.2) := ⟨_, rfl⟩
  have hp := refParts_any w ga n gc VG hn hgc hx
  rw [← hX] at hp ⊢
  rw [← Cp.placeZ_parts]
  obtain ⟨R, hR⟩ : ∃ R, R = Cp.placeZ (Cp.partsI X) x := ⟨_, rfl⟩
  rw [← hR]
  have H := Lib.hid (And.intro hp hR)
  clear hn hx hX hp hR
  go_enter Tryz.func86, Tryz.ntmps86
  go_wp2_with fail
  refine H.out.1.mono ?_
  rintro e w1 ⟨la, lc, VS, rfl, hO, hV, hc⟩
  obtain ⟨m, hm⟩ : ∃ m, m = VS.length := ⟨_, rfl⟩
  have hmx : m ≤ 9223372036854775807 := by
    have := hO.row
    rw [← hm] at this
    rcases this.2 with ⟨h0, h1⟩ | ⟨g, cap, cur, h0, _, _, h3, h4, _⟩
    · omega
    · simp only [maxLen] at h4; omega
  have H1 := Lib.hid (And.intro hO.rows (And.intro hV (And.intro hc hm)))
  rw [← hm]
  clear hO hV hc hm
  go_wp2_with fail
  go_loopg [6] m (fun d iv wr => ∃ i : Nat, d = m - i ∧ i ≤ m ∧ iv = .int .i64 i ∧ Hid ((∀ j, j < i → ∀ l, (Cp.partsI X)[j]? = some l → x ∉ l) ∧ Chg [] w1 wr))
  case atStart => exact ⟨0, rfl, Nat.zero_le _, rfl, Lib.hid ⟨fun j h => absurd h (Nat.not_lt_zero _), Chg.refl _ _⟩⟩
  case round =>
    obtain ⟨i, rfl, hi, rfl, hin⟩ := hrel
    obtain ⟨wq, rfl⟩ : ∃ wz, wz = wr := ⟨_, rfl⟩
    by_cases hlt : i < m
    · obtain ⟨b, o, rfl, hcl, hz, hl⟩ := H1.out.1 i (by have := H1.out.2.2.2; omega)
      obtain ⟨ra, rc, zs, hVi⟩ : ∃ ra rc zs, VS[i]'(by have := H1.out.2.2.2; omega) = (ra, rc, zs) := ⟨_, _, _, rfl⟩
      have hzs : (Cp.partsI X)[i]? = some zs := by
        rw [← H1.out.2.1, List.getElem?_map, List.getElem?_eq_getElem (by have := H1.out.2.2.2; omega), hVi]; rfl
      rw [hVi] at hcl hz hl
      dsimp only at hz hl
      rw [Is.cell] at hcl
      dsimp only at hcl
      obtain ⟨q, hq⟩ : ∃ q, q = zs.length := ⟨_, rfl⟩
      rw [← hq] at hcl hl
      have HZ := Lib.hid (And.intro hz (And.intro hzs (And.intro hq hcl)))
      clear hz hzs hq hVi hcl
      go_wp2_with fail
      go_loopg [7] q (fun d kv wr => ∃ k : Nat, d = q - k ∧ k ≤ q ∧ kv = .int .i64 k ∧ Hid ((∀ j y, j < k → zs[j]? = some y → y ≠ x) ∧ Chg [] wq wr))
      case atStart => exact ⟨0, rfl, Nat.zero_le _, rfl, Lib.hid ⟨fun j y h => absurd h (Nat.not_lt_zero _), Chg.refl _ _⟩⟩
      case round =>
        obtain ⟨k, rfl, hk, rfl, hin2⟩ := hrel
        obtain ⟨ws, rfl⟩ : ∃ wz, wz = wr := ⟨_, rfl⟩
        have hcl := (hin.out.2.tr hin2.out.2).cell HZ.out.2.2.2 (by simp)
        by_cases hlt2 : k < q
        · have hkl : k < zs.length := by have := HZ.out.2.2.1; omega
          obtain ⟨bz, oz, rfl, hc⟩ := (HZ.out.1.keep (hin.out.2.tr hin2.out.2).kp) k hkl
          obtain ⟨z, hz⟩ : ∃ z, z = zs[k] := ⟨_, rfl⟩
          rw [← hz] at hc
          have hzz : zs[k]? = some z := by rw [List.getElem?_eq_getElem hkl, hz]
          have HK := Lib.hid hzz
          clear hz hzz
          by_cases hxz : z = x
          · have hq1 : (z == x) = true := by simpa using hxz
            have HX := Lib.hid hxz
            clear hxz
            go_wp2_with fail
            go_ret
            refine ⟨?_, (H1.out.2.2.1.tr hin.out.2).tr hin2.out.2⟩
            have hiL : i < (Cp.partsI X).length := by
              rcases Nat.lt_or_ge i (Cp.partsI X).length with h | h
              · exact h
              · have := HZ.out.2.1; rw [List.getElem?_eq_none h] at this; cases this
            have hL : (Cp.partsI X)[i] = zs := by have := HZ.out.2.1; rw [List.getElem?_eq_getElem hiL] at this; simpa using this
            have := placeZ_at hiL hin.out.1 (by rw [hL, ← HX.out]; exact List.mem_of_getElem? HK.out)
            rw [H.out.2, this]; rfl
          · have hq1 : (z == x) = false := by simpa using hxz
            have HX := Lib.hid hxz
            clear hxz
            go_wp2_with fail
            go_roundg (q - (k + 1))
            case measure => omega
            case rel => exact ⟨k + 1, rfl, by omega, by go_num, Lib.hid ⟨fun j y hj hy => by
              rcases Nat.lt_or_ge j k with h | h
              · exact hin2.out.1 j y h hy
              · obtain rfl : j = k := by omega
                rw [HK.out] at hy
                simp only [Option.some.injEq] at hy
                exact fun e => HX.out (by rw [hy, e]), hin2.out.2⟩⟩
        · obtain rfl : q = k := by omega
          go_wp2_with fail
          go_roundg (m - (i + 1))
          case measure => omega
          case rel => exact ⟨i + 1, rfl, by omega, by go_num, Lib.hid ⟨fun j hj l hl => by
            rcases Nat.lt_or_ge j i with h | h
            · exact hin.out.1 j h l hl
            · obtain rfl : j = i := by omega
              rw [HZ.out.2.1] at hl
              simp only [Option.some.injEq] at hl
              subst hl
              intro hm
              obtain ⟨k, hk, hkx⟩ := List.getElem_of_mem hm
              exact hin2.out.1 k x (by have := HZ.out.2.2.1; omega) (by rw [List.getElem?_eq_getElem hk, hkx]) rfl, hin.out.2.tr hin2.out.2⟩⟩
    · obtain rfl : m = i := by omega
      go_wp2_with fail
      go_ret
      refine ⟨?_, H1.out.2.2.1.tr hin.out.2⟩
      have := Cp.placeZ_none (L := Cp.partsI X) (a := x) (fun l hl hm => by
        obtain ⟨j, hj, hjl⟩ := List.getElem_of_mem hl
        have hjm : j < m := by
          have := congrArg List.length H1.out.2.1
          rw [List.length_map] at this
          have := H1.out.2.2.2
          omega
        exact hin.out.1 j hjm l (by rw [List.getElem?_eq_getElem hj, hjl]) hm)
      rw [H.out.2, this]; rfl

set_option maxRecDepth 100000 in
set_option maxHeartbeats 8000000 in
theorem refRing_any (w : World) (ga : Option Addr) (n gc : Nat) (VG : List Is) (hn : n = VG.length) (hgc : n ≤ gc ∧ gc ≤ 9223372036854775807) (hx : IntRows w ga VG) (x : Int) :
    Calls Tryz.prog 118 #[.slice ga n gc, .int .i64 x] w fun e w' => e = .returned (.bool (Cp.ringI (VG.map (·.2.2)) x)) ∧ Chg [] w w' := by
  obtain ⟨X, hX⟩ : ∃ X, X = VG.map (·.2.2) := ⟨_, rfl⟩
  have hp := refPart_any w ga n gc VG hn hgc hx x
  rw [← hX] at hp ⊢
  have hnX : n = X.length := by rw [hn, hX, List.length_map]
  obtain ⟨R, hR⟩ : ∃ R, R = Cp.ringI X x := ⟨_, rfl⟩
  rw [← hR]
  obtain ⟨pv, hpv⟩ : ∃ pv, pv = Cp.partI X x := ⟨_, rfl⟩
  rw [← hpv] at hp
  have H := Lib.hid (And.intro hp (And.intro hR (And.intro hpv (And.intro hn (And.intro hx (And.intro hX hnX))))))
  clear hn hx hX hp hR hpv hnX
  go_enter Tryz.func118, Tryz.ntmps118
  go_wp2_with fail
  refine H.out.1.mono ?_
  rintro e w1 ⟨rfl, hc⟩
  have H1 := Lib.hid hc
  clear hc
  by_cases hneg : pv < 0
  · go_wp2_with fail
    go_ret
    refine ⟨ret_bool (a := false) ?_, H1.out⟩
    rw [H.out.2.1]
    have := H.out.2.2.1
    unfold Cp.partI at this
    unfold Cp.ringI
    cases h1 : Cp.rightI X with
    | false => rfl
    | true =>
      cases h2 : Cp.numI X x with
      | false => rfl
      | true =>
        rw [h1, h2] at this
        simp only [Bool.and_self, if_true] at this
        have h3 := Cp.right_RG h1
        unfold Cp.numI at h2
        simp only [Bool.and_eq_true, decide_eq_true_eq] at h2
        have := (Cp.told h3).place x.toNat (by rw [Cp.toG_len]; omega)
        omega
  · have hne : Cp.rightI X = true ∧ Cp.numI X x = true := by
      have := H.out.2.2.1
      unfold Cp.partI at this
      cases h1 : Cp.rightI X with
      | false => rw [h1] at this; simp at this; omega
      | true =>
        cases h2 : Cp.numI X x with
        | false => rw [h1, h2] at this; simp at this; omega
        | true => exact ⟨rfl, rfl⟩
    obtain ⟨hr, hnum⟩ := hne
    obtain ⟨a, rfl, han⟩ : ∃ a : Nat, x = (a : Int) ∧ a < n := by
      unfold Cp.numI at hnum
      simp only [Bool.and_eq_true, decide_eq_true_eq] at hnum
      exact ⟨x.toNat, by omega, by have := H.out.2.2.2.2.2.2; omega⟩
    obtain ⟨p, rfl⟩ : ∃ p : Nat, pv = (p : Int) := ⟨pv.toNat, by omega⟩
    obtain ⟨b, o, rfl, hcl, hz, hl⟩ := H.out.2.2.2.2.1 a (by have := H.out.2.2.2.1; omega)
    obtain ⟨ra, rc, zs, hVi⟩ : ∃ ra rc zs, VG[a]'(by have := H.out.2.2.2.1; omega) = (ra, rc, zs) := ⟨_, _, _, rfl⟩
    have hzs : X.getD a [] = zs := by
      rw [H.out.2.2.2.2.2.1, List.getD, List.getElem?_map, List.getElem?_eq_getElem (by have := H.out.2.2.2.1; omega), hVi]; rfl
    rw [hVi] at hcl hz hl
    dsimp only at hz hl
    rw [Is.cell] at hcl
    dsimp only at hcl
    obtain ⟨q, hq⟩ : ∃ q, q = zs.length := ⟨_, rfl⟩
    rw [← hq] at hcl hl
    have hring : ∀ rl, rl = ((Cp.partsI X).getD p []).length → R = (decide (1 < rl) || zs.contains (a : Int)) := fun rl hrl => by
      rw [H.out.2.1]; unfold Cp.ringI
      rw [hr, Cp.numI_nat (by rw [← H.out.2.2.2.2.2.2]; exact han)]
      unfold Cp.ringR
      have hpp : Cp.placeR (Cp.partsR (Cp.toG X)) a = (p : Int) := by
        have := H.out.2.2.1
        unfold Cp.partI at this
        rw [hr, Cp.numI_nat (by rw [← H.out.2.2.2.2.2.2]; exact han)] at this
        simp at this
        exact this.symm
      have hlen : ((Cp.partsI X).getD p []).length = ((Cp.partsR (Cp.toG X)).getD p []).length := by
        unfold Cp.partsI
        rw [hr, if_pos rfl]
        unfold Cp.intsG
        rw [List.getD, List.getD, List.getElem?_map]
        cases (Cp.partsR (Cp.toG X))[p]? with
        | none => rfl
        | some l => simp
      rw [Int.toNat_natCast, hpp, Int.toNat_natCast, ← hlen, ← hrl, ← self_row hr (by rw [← H.out.2.2.2.2.2.2]; exact han), hzs]; simp
    have hpL : p < (Cp.partsI X).length := by
      have h3 := (Cp.told (Cp.right_RG hr)).place a (by rw [Cp.toG_len, ← H.out.2.2.2.2.2.2]; exact han)
      have := H.out.2.2.1
      unfold Cp.partI at this
      rw [hr, Cp.numI_nat (by rw [← H.out.2.2.2.2.2.2]; exact han)] at this
      simp at this
      unfold Cp.partsI
      rw [hr, if_pos rfl, Cp.intsG_len]
      omega
    have HZ := Lib.hid (And.intro hz (And.intro hq (And.intro hcl (And.intro hring hpL))))
    clear hz hzs hq hVi hcl hring hr hnum hpL
    go_wp2_with fail
    go_loopg [6] q (fun d kv wr => ∃ k : Nat, d = q - k ∧ k ≤ q ∧ kv = .int .i64 k ∧ Hid ((∀ j y, j < k → zs[j]? = some y → y ≠ (a : Int)) ∧ Chg [] w1 wr))
    case atStart => exact ⟨0, rfl, Nat.zero_le _, rfl, Lib.hid ⟨fun j y h => absurd h (Nat.not_lt_zero _), Chg.refl _ _⟩⟩
    case round =>
      obtain ⟨k, rfl, hk, rfl, hin2⟩ := hrel
      obtain ⟨ws, rfl⟩ : ∃ wz, wz = wr := ⟨_, rfl⟩
      have hcl := (H1.out.tr hin2.out.2).cell HZ.out.2.2.1 (by simp)
      by_cases hlt2 : k < q
      · have hkl : k < zs.length := by have := HZ.out.2.1; omega
        obtain ⟨bz, oz, rfl, hc⟩ := (HZ.out.1.keep (H1.out.tr hin2.out.2).kp) k hkl
        obtain ⟨z, hz⟩ : ∃ z, z = zs[k] := ⟨_, rfl⟩
        rw [← hz] at hc
        have hzz : zs[k]? = some z := by rw [List.getElem?_eq_getElem hkl, hz]
        have HK := Lib.hid hzz
        clear hz hzz
        by_cases hxz : z = (a : Int)
        · have hq1 : (z == (a : Int)) = true := by simpa using hxz
          have HX := Lib.hid hxz
          clear hxz
          go_wp2_with fail
          go_ret
          refine ⟨ret_bool (a := true) ?_, H1.out.tr hin2.out.2⟩
          have hm : (a : Int) ∈ zs := by rw [← HX.out]; exact List.mem_of_getElem? HK.out
          rw [HZ.out.2.2.2.1 _ rfl, List.contains_iff_mem.2 hm]; simp
        · have hq1 : (z == (a : Int)) = false := by simpa using hxz
          have HX := Lib.hid hxz
          clear hxz
          go_wp2_with fail
          go_roundg (q - (k + 1))
          case measure => omega
          case rel => exact ⟨k + 1, rfl, by omega, by go_num, Lib.hid ⟨fun j y hj hy => by
            rcases Nat.lt_or_ge j k with h | h
            · exact hin2.out.1 j y h hy
            · obtain rfl : j = k := by omega
              rw [HK.out] at hy
              simp only [Option.some.injEq] at hy
              exact fun e => HX.out (by rw [hy, e]), hin2.out.2⟩⟩
      · obtain rfl : q = k := by omega
        have hps := refParts_any ws (some ⟨b, o, none⟩) n gc VG H.out.2.2.2.1 hgc (H.out.2.2.2.2.1.keep (H1.out.tr hin2.out.2).kp)
        rw [← H.out.2.2.2.2.2.1] at hps
        have HS := Lib.hid hps
        clear hps
        go_wp2_with fail
        refine HS.out.mono ?_
        rintro e w3 ⟨la, lc, VS, rfl, hO, hV, hc3⟩
        have hpV : p < VS.length := by
          have := congrArg List.length hV
          rw [List.length_map] at this
          have := HZ.out.2.2.2.2
          omega
        obtain ⟨gb, rfl, -, hgb⟩ := hO.at hpV
        obtain ⟨ra2, rc2, ls, hVp⟩ : ∃ ra rc zs, VS[p] = (ra, rc, zs) := ⟨_, _, _, rfl⟩
        have hls : (Cp.partsI X).getD p [] = ls := by rw [← hV, List.getD, List.getElem?_map, List.getElem?_eq_getElem hpV, hVp]; rfl
        rw [hVp, Is.cell] at hgb
        dsimp only at hgb
        obtain ⟨rl, hrl⟩ : ∃ rl, rl = ls.length := ⟨_, rfl⟩
        rw [← hrl] at hgb
        obtain ⟨mm, hmm⟩ : ∃ mm, mm = VS.length := ⟨_, rfl⟩
        rw [← hmm] at hpV ⊢
        have HR := Lib.hid (And.intro hc3 (And.intro hls hrl))
        clear hO hV hVp hls hrl hc3 hmm
        go_wp2_with fail
        go_ret
        refine ⟨ret_bool (a := decide ((1 : Int) < (rl : Int))) ?_, (H1.out.tr hin2.out.2).tr HR.out.1⟩
        have hm : zs.contains (a : Int) = false := by
          have : (a : Int) ∉ zs := fun hm => by
            obtain ⟨j, hj, hjx⟩ := List.getElem_of_mem hm
            exact hin2.out.1 j (a : Int) (by have := HZ.out.2.1; omega) (by rw [List.getElem?_eq_getElem hj, hjx]) rfl
          simpa using this
        rw [HZ.out.2.2.2.1 rl (by rw [HR.out.2.1]; exact HR.out.2.2), hm, Bool.or_false]
        exact decide_eq_decide.2 (by omega)
end Go.Proofs.YtlklmpjakeedcaaGreatDoor

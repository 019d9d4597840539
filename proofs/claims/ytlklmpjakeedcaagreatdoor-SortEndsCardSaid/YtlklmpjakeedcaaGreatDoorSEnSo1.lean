/-
 A number's part, whether it is a ring, by the document.
 Conditions: the rows read as data.
-/
import Derived.Test.YtlklmpjakeedcaaGreatDoorSEnCpRp
import Derived.Test.YtlklmpjakeedcaaGreatDoorSEnCpE
import Derived.Test.YtlklmpjakeedcaaGreatDoorSEnLf4
import Derived.Test.YtlklmpjakeedcaaGreatDoorSEnCpY
import Derived.Test.YtlklmpjakeedcaaGreatDoorSEnGRule
set_option linter.unusedVariables false
set_option linter.unusedSimpArgs false
set_option linter.unnecessarySimpa false
namespace Go.Proofs.YtlklmpjakeedcaaGreatDoor
open Go.RowKit Go.MapKept Go.Shelf

theorem placeZ_at : ∀ {L : List (List Int)} {a : Int} {i : Nat} (hi : i < L.length), (∀ j, j < i → ∀ l, L[j]? = some l → a ∉ l) → a ∈ L[i] → Cp.placeZ L a = (i : Int) := by
 intro L
 induction L with
 | nil => intro a i hi; simp at hi
 | cons l L ih =>
  intro a i hi h1 h2
  cases i with
  | zero =>
   have h3 : a ∈ l := h2
   unfold Cp.placeZ
   rw [if_pos (by simpa using h3)]; rfl
  | succ i =>
   have h3 : a ∉ l := h1 0 (by omega) l rfl
   have h4 := ih (a := a) (i := i) (by simpa using hi) (fun j hj l' hl' => h1 (j + 1) (by omega) l' (by simpa using hl')) (by simpa using h2)
   unfold Cp.placeZ
   rw [if_neg (by simpa using h3), h4, if_neg (by omega)]
   omega

set_option maxRecDepth 100000 in
set_option maxHeartbeats 8000000 in
theorem refPart_any (w : World) (ga : Option Addr) (n gc : Nat) (VG : List Is) (hn : n = VG.length) (hgc : n ≤ gc ∧ gc ≤ 9223372036854775807) (hx : IntRows w ga VG) (x : Int) :
  Calls Tryz.prog 86 #[.slice ga n gc, .int .i64 x] w fun e w' => e = .returned (.int .i64 (Cp.partI (VG.map (·.2.2)) x)) ∧ Chg [] w w' := by
 obtain ⟨X, hX⟩ : ∃ X, X = VG.map (·.2.2) := ⟨_, rfl⟩
 have hp := refParts_any w ga n gc VG hn hgc hx
 rw [← hX] at hp ⊢
 rw [← Cp.placeZ_parts]
 obtain ⟨R, hR⟩ : ∃ R, R = Cp.placeZ (Cp.partsI X) x := ⟨_, rfl⟩
 rw [← hR]
 have H := Lib.hid (And.intro hp hR)
 clear hn hx hX hp hR
 go_enter Tryz.func86, Tryz.ntmps86
 go_wp2_with fail
 refine H.out.1.mono ?_
 rintro e w1 ⟨la, lc, VS, rfl, hO, hV, hc⟩
 obtain ⟨m, hm⟩ : ∃ m, m = VS.length := ⟨_, rfl⟩
 have hmx : m ≤ 9223372036854775807 := by
  have := hO.row
  rw [← hm] at this
  rcases this.2 with ⟨h0, h1⟩ | ⟨g, cap, cur, h0, _, _, h3, h4, _⟩
  ·omega
  ·simp only [maxLen] at h4; omega
 have H1 := Lib.hid (And.intro hO.rows (And.intro hV (And.intro hc hm)))
 rw [← hm]
 clear hO hV hc hm
 go_wp2_with fail
 go_loopg [6] m (fun d iv wr => ∃ i : Nat, d = m - i ∧ i ≤ m ∧ iv = .int .i64 i ∧ Hid ((∀ j, j < i → ∀ l, (Cp.partsI X)[j]? = some l → x ∉ l) ∧ Chg [] w1 wr))
 case atStart => exact ⟨0, rfl, Nat.zero_le _, rfl, Lib.hid ⟨fun j h => absurd h (Nat.not_lt_zero _), Chg.refl _ _⟩⟩
 case round =>
  obtain ⟨i, rfl, hi, rfl, hin⟩ := hrel
  obtain ⟨wq, rfl⟩ : ∃ wz, wz = wr := ⟨_, rfl⟩
  by_cases hlt : i < m
  ·obtain ⟨b, o, rfl, hcl, hz, hl⟩ := H1.out.1 i (by have := H1.out.2.2.2; omega)
   obtain ⟨ra, rc, zs, hVi⟩ : ∃ ra rc zs, VS[i]'(by have := H1.out.2.2.2; omega) = (ra, rc, zs) := ⟨_, _, _, rfl⟩
   have hzs : (Cp.partsI X)[i]? = some zs := by
    rw [← H1.out.2.1, List.getElem?_map, List.getElem?_eq_getElem (by have := H1.out.2.2.2; omega), hVi]; rfl
   rw [hVi] at hcl hz hl
   dsimp only at hz hl
   rw [Is.cell] at hcl
   dsimp only at hcl
   obtain ⟨q, hq⟩ : ∃ q, q = zs.length := ⟨_, rfl⟩
   rw [← hq] at hcl hl
   have HZ := Lib.hid (And.intro hz (And.intro hzs (And.intro hq hcl)))
   clear hz hzs hq hVi hcl
   go_wp2_with fail
   go_loopg [7] q (fun d kv wr => ∃ k : Nat, d = q - k ∧ k ≤ q ∧ kv = .int .i64 k ∧ Hid ((∀ j y, j < k → zs[j]? = some y → y ≠ x) ∧ Chg [] wq wr))
   case atStart => exact ⟨0, rfl, Nat.zero_le _, rfl, Lib.hid ⟨fun j y h => absurd h (Nat.not_lt_zero _), Chg.refl _ _⟩⟩
   case round =>
    obtain ⟨k, rfl, hk, rfl, hin2⟩ := hrel
    obtain ⟨ws, rfl⟩ : ∃ wz, wz = wr := ⟨_, rfl⟩
    have hcl := (hin.out.2.tr hin2.out.2).cell HZ.out.2.2.2 (by simp)
    by_cases hlt2 : k < q
    ·have hkl : k < zs.length := by have := HZ.out.2.2.1; omega
     obtain ⟨bz, oz, rfl, hc⟩ := (HZ.out.1.keep (hin.out.2.tr hin2.out.2).kp) k hkl
     obtain ⟨z, hz⟩ : ∃ z, z = zs[k] := ⟨_, rfl⟩
     rw [← hz] at hc
     have hzz : zs[k]? = some z := by rw [List.getElem?_eq_getElem hkl, hz]
     have HK := Lib.hid hzz
     clear hz hzz
     by_cases hxz : z = x
     ·have hq1 : (z == x) = true := by simpa using hxz
      have HX := Lib.hid hxz
      clear hxz
      go_wp2_with fail
      go_ret
      refine ⟨?_, (H1.out.2.2.1.tr hin.out.2).tr hin2.out.2⟩
      have hiL : i < (Cp.partsI X).length := by
       rcases Nat.lt_or_ge i (Cp.partsI X).length with h | h
       ·exact h
       ·have := HZ.out.2.1; rw [List.getElem?_eq_none h] at this; cases this
      have hL : (Cp.partsI X)[i] = zs := by have := HZ.out.2.1; rw [List.getElem?_eq_getElem hiL] at this; simpa using this
      have := placeZ_at hiL hin.out.1 (by rw [hL, ← HX.out]; exact List.mem_of_getElem? HK.out)
      rw [H.out.2, this]; rfl
     ·have hq1 : (z == x) = false := by simpa using hxz
      have HX := Lib.hid hxz
      clear hxz
      go_wp2_with fail
      go_roundg (q - (k + 1))
      case measure => omega
      case rel => exact ⟨k + 1, rfl, by omega, by go_num, Lib.hid ⟨fun j y hj hy => by
       rcases Nat.lt_or_ge j k with h | h
       ·exact hin2.out.1 j y h hy
       ·obtain rfl : j = k := by omega
        rw [HK.out] at hy
        simp only [Option.some.injEq] at hy
        exact fun e => HX.out (by rw [hy, e]), hin2.out.2⟩⟩
    ·obtain rfl : q = k := by omega
     go_wp2_with fail
     go_roundg (m - (i + 1))
     case measure => omega
     case rel => exact ⟨i + 1, rfl, by omega, by go_num, Lib.hid ⟨fun j hj l hl => by
      rcases Nat.lt_or_ge j i with h | h
      ·exact hin.out.1 j h l hl
      ·obtain rfl : j = i := by omega
       rw [HZ.out.2.1] at hl
       simp only [Option.some.injEq] at hl
       subst hl
       intro hm
       obtain ⟨k, hk, hkx⟩ := List.getElem_of_mem hm
       exact hin2.out.1 k x (by have := HZ.out.2.2.1; omega) (by rw [List.getElem?_eq_getElem hk, hkx]) rfl, hin.out.2.tr hin2.out.2⟩⟩
  ·obtain rfl : m = i := by omega
   go_wp2_with fail
   go_ret
   refine ⟨?_, H1.out.2.2.1.tr hin.out.2⟩
   have := Cp.placeZ_none (L := Cp.partsI X) (a := x) (fun l hl hm => by
    obtain ⟨j, hj, hjl⟩ := List.getElem_of_mem hl
    have hjm : j < m := by
     have := congrArg List.length H1.out.2.1
     rw [List.length_map] at this
     have := H1.out.2.2.2
     omega
    exact hin.out.1 j hjm l (by rw [List.getElem?_eq_getElem hj, hjl]) hm)
   rw [H.out.2, this]; rfl

set_option maxRecDepth 100000 in
set_option maxHeartbeats 8000000 in
theorem refRing_any (w : World) (ga : Option Addr) (n gc : Nat) (VG : List Is) (hn : n = VG.length) (hgc : n ≤ gc ∧ gc ≤ 9223372036854775807) (hx : IntRows w ga VG) (x : Int) :
  Calls Tryz.prog 118 #[.slice ga n gc, .int .i64 x] w fun e w' => e = .returned (.bool (Cp.ringI (VG.map (·.2.2)) x)) ∧ Chg [] w w' := by
 obtain ⟨X, hX⟩ : ∃ X, X = VG.map (·.2.2) := ⟨_, rfl⟩
 have hp := refPart_any w ga n gc VG hn hgc hx x
 rw [← hX] at hp ⊢
 have hnX : n = X.length := by rw [hn, hX, List.length_map]
 obtain ⟨R, hR⟩ : ∃ R, R = Cp.ringI X x := ⟨_, rfl⟩
 rw [← hR]
 obtain ⟨pv, hpv⟩ : ∃ pv, pv = Cp.partI X x := ⟨_, rfl⟩
 rw [← hpv] at hp
 have H := Lib.hid (And.intro hp (And.intro hR (And.intro hpv (And.intro hn (And.intro hx (And.intro hX hnX))))))
 clear hn hx hX hp hR hpv hnX
 go_enter Tryz.func118, Tryz.ntmps118
 go_wp2_with fail
 refine H.out.1.mono ?_
 rintro e w1 ⟨rfl, hc⟩
 have H1 := Lib.hid hc
 clear hc
 by_cases hneg : pv < 0
 ·go_wp2_with fail
  go_ret
  refine ⟨ret_bool (a := false) ?_, H1.out⟩
  rw [H.out.2.1]
  have := H.out.2.2.1
  unfold Cp.partI at this
  unfold Cp.ringI
  cases h1 : Cp.rightI X with
  | false => rfl
  | true =>
   cases h2 : Cp.numI X x with
   | false => rfl
   | true =>
    rw [h1, h2] at this
    simp only [Bool.and_self, if_true] at this
    have h3 := Cp.right_RG h1
    unfold Cp.numI at h2
    simp only [Bool.and_eq_true, decide_eq_true_eq] at h2
    have := (Cp.told h3).place x.toNat (by rw [Cp.toG_len]; omega)
    omega
 ·have hne : Cp.rightI X = true ∧ Cp.numI X x = true := by
   have := H.out.2.2.1
   unfold Cp.partI at this
   cases h1 : Cp.rightI X with
   | false => rw [h1] at this; simp at this; omega
   | true =>
    cases h2 : Cp.numI X x with
    | false => rw [h1, h2] at this; simp at this; omega
    | true => exact ⟨rfl, rfl⟩
  obtain ⟨hr, hnum⟩ := hne
  obtain ⟨a, rfl, han⟩ : ∃ a : Nat, x = (a : Int) ∧ a < n := by
   unfold Cp.numI at hnum
   simp only [Bool.and_eq_true, decide_eq_true_eq] at hnum
   exact ⟨x.toNat, by omega, by have := H.out.2.2.2.2.2.2; omega⟩
  obtain ⟨p, rfl⟩ : ∃ p : Nat, pv = (p : Int) := ⟨pv.toNat, by omega⟩
  obtain ⟨b, o, rfl, hcl, hz, hl⟩ := H.out.2.2.2.2.1 a (by have := H.out.2.2.2.1; omega)
  obtain ⟨ra, rc, zs, hVi⟩ : ∃ ra rc zs, VG[a]'(by have := H.out.2.2.2.1; omega) = (ra, rc, zs) := ⟨_, _, _, rfl⟩
  have hzs : X.getD a [] = zs := by
   rw [H.out.2.2.2.2.2.1, List.getD, List.getElem?_map, List.getElem?_eq_getElem (by have := H.out.2.2.2.1; omega), hVi]; rfl
  rw [hVi] at hcl hz hl
  dsimp only at hz hl
  rw [Is.cell] at hcl
  dsimp only at hcl
  obtain ⟨q, hq⟩ : ∃ q, q = zs.length := ⟨_, rfl⟩
  rw [← hq] at hcl hl
  have hring : ∀ rl, rl = ((Cp.partsI X).getD p []).length → R = (decide (1 < rl) || zs.contains (a : Int)) := fun rl hrl => by
   rw [H.out.2.1]; unfold Cp.ringI
   rw [hr, Cp.numI_nat (by rw [← H.out.2.2.2.2.2.2]; exact han)]
   unfold Cp.ringR
   have hpp : Cp.placeR (Cp.partsR (Cp.toG X)) a = (p : Int) := by
    have := H.out.2.2.1
    unfold Cp.partI at this
    rw [hr, Cp.numI_nat (by rw [← H.out.2.2.2.2.2.2]; exact han)] at this
    simp at this
    exact this.symm
   have hlen : ((Cp.partsI X).getD p []).length = ((Cp.partsR (Cp.toG X)).getD p []).length := by
    unfold Cp.partsI
    rw [hr, if_pos rfl]
    unfold Cp.intsG
    rw [List.getD, List.getD, List.getElem?_map]
    cases (Cp.partsR (Cp.toG X))[p]? with
    | none => rfl
    | some l => simp
   rw [Int.toNat_natCast, hpp, Int.toNat_natCast, ← hlen, ← hrl, ← self_row hr (by rw [← H.out.2.2.2.2.2.2]; exact han), hzs]; simp
  have hpL : p < (Cp.partsI X).length := by
   have h3 := (Cp.told (Cp.right_RG hr)).place a (by rw [Cp.toG_len, ← H.out.2.2.2.2.2.2]; exact han)
   have := H.out.2.2.1
   unfold Cp.partI at this
   rw [hr, Cp.numI_nat (by rw [← H.out.2.2.2.2.2.2]; exact han)] at this
   simp at this
   unfold Cp.partsI
   rw [hr, if_pos rfl, Cp.intsG_len]
   omega
  have HZ := Lib.hid (And.intro hz (And.intro hq (And.intro hcl (And.intro hring hpL))))
  clear hz hzs hq hVi hcl hring hr hnum hpL
  go_wp2_with fail
  go_loopg [6] q (fun d kv wr => ∃ k : Nat, d = q - k ∧ k ≤ q ∧ kv = .int .i64 k ∧ Hid ((∀ j y, j < k → zs[j]? = some y → y ≠ (a : Int)) ∧ Chg [] w1 wr))
  case atStart => exact ⟨0, rfl, Nat.zero_le _, rfl, Lib.hid ⟨fun j y h => absurd h (Nat.not_lt_zero _), Chg.refl _ _⟩⟩
  case round =>
   obtain ⟨k, rfl, hk, rfl, hin2⟩ := hrel
   obtain ⟨ws, rfl⟩ : ∃ wz, wz = wr := ⟨_, rfl⟩
   have hcl := (H1.out.tr hin2.out.2).cell HZ.out.2.2.1 (by simp)
   by_cases hlt2 : k < q
   ·have hkl : k < zs.length := by have := HZ.out.2.1; omega
    obtain ⟨bz, oz, rfl, hc⟩ := (HZ.out.1.keep (H1.out.tr hin2.out.2).kp) k hkl
    obtain ⟨z, hz⟩ : ∃ z, z = zs[k] := ⟨_, rfl⟩
    rw [← hz] at hc
    have hzz : zs[k]? = some z := by rw [List.getElem?_eq_getElem hkl, hz]
    have HK := Lib.hid hzz
    clear hz hzz
    by_cases hxz : z = (a : Int)
    ·have hq1 : (z == (a : Int)) = true := by simpa using hxz
     have HX := Lib.hid hxz
     clear hxz
     go_wp2_with fail
     go_ret
     refine ⟨ret_bool (a := true) ?_, H1.out.tr hin2.out.2⟩
     have hm : (a : Int) ∈ zs := by rw [← HX.out]; exact List.mem_of_getElem? HK.out
     rw [HZ.out.2.2.2.1 _ rfl, List.contains_iff_mem.2 hm]; simp
    ·have hq1 : (z == (a : Int)) = false := by simpa using hxz
     have HX := Lib.hid hxz
     clear hxz
     go_wp2_with fail
     go_roundg (q - (k + 1))
     case measure => omega
     case rel => exact ⟨k + 1, rfl, by omega, by go_num, Lib.hid ⟨fun j y hj hy => by
      rcases Nat.lt_or_ge j k with h | h
      ·exact hin2.out.1 j y h hy
      ·obtain rfl : j = k := by omega
       rw [HK.out] at hy
       simp only [Option.some.injEq] at hy
       exact fun e => HX.out (by rw [hy, e]), hin2.out.2⟩⟩
   ·obtain rfl : q = k := by omega
    have hps := refParts_any ws (some ⟨b, o, none⟩) n gc VG H.out.2.2.2.1 hgc (H.out.2.2.2.2.1.keep (H1.out.tr hin2.out.2).kp)
    rw [← H.out.2.2.2.2.2.1] at hps
    have HS := Lib.hid hps
    clear hps
    go_wp2_with fail
    refine HS.out.mono ?_
    rintro e w3 ⟨la, lc, VS, rfl, hO, hV, hc3⟩
    have hpV : p < VS.length := by
     have := congrArg List.length hV
     rw [List.length_map] at this
     have := HZ.out.2.2.2.2
     omega
    obtain ⟨gb, rfl, -, hgb⟩ := hO.at hpV
    obtain ⟨ra2, rc2, ls, hVp⟩ : ∃ ra rc zs, VS[p] = (ra, rc, zs) := ⟨_, _, _, rfl⟩
    have hls : (Cp.partsI X).getD p [] = ls := by rw [← hV, List.getD, List.getElem?_map, List.getElem?_eq_getElem hpV, hVp]; rfl
    rw [hVp, Is.cell] at hgb
    dsimp only at hgb
    obtain ⟨rl, hrl⟩ : ∃ rl, rl = ls.length := ⟨_, rfl⟩
    rw [← hrl] at hgb
    obtain ⟨mm, hmm⟩ : ∃ mm, mm = VS.length := ⟨_, rfl⟩
    rw [← hmm] at hpV ⊢
    have HR := Lib.hid (And.intro hc3 (And.intro hls hrl))
    clear hO hV hVp hls hrl hc3 hmm
    go_wp2_with fail
    go_ret
    refine ⟨ret_bool (a := decide ((1 : Int) < (rl : Int))) ?_, (H1.out.tr hin2.out.2).tr HR.out.1⟩
    have hm : zs.contains (a : Int) = false := by
     have : (a : Int) ∉ zs := fun hm => by
      obtain ⟨j, hj, hjx⟩ := List.getElem_of_mem hm
      exact hin2.out.1 j (a : Int) (by have := HZ.out.2.1; omega) (by rw [List.getElem?_eq_getElem hj, hjx]) rfl
     simpa using this
    rw [HZ.out.2.2.2.1 rl (by rw [HR.out.2.1]; exact HR.out.2.2), hm, Bool.or_false]
    exact decide_eq_decide.2 (by omega)
end Go.Proofs.YtlklmpjakeedcaaGreatDoor
set_option linter.unusedVariables false
set_option linter.unusedSimpArgs false
set_option linter.unnecessarySimpa false
namespace Go.Proofs.YtlklmpjakeedcaaGreatDoor
open Go.RowKit Go.MapKept Go.Shelf

/-- A graph with its parts. -/
structure WkAt (w : World) (ga : Option Addr) (gn gc : Nat) (pa : Option Addr) (pn pc : Nat) (VG VP : List Is) (X : List (List Int)) : Prop where
 gn : gn = VG.length
 pn : pn = VP.length
 gi : IntRows w ga VG
 pi : IntRows w pa VP
 eg : VG.map (·.2.2) = X
 ep : VP.map (·.2.2) = Cp.partsI X
 right : Cp.rightI X = true
theorem WkAt.keep {w w' : World} {ga : Option Addr} {gn gc : Nat} {pa : Option Addr} {pn pc : Nat} {VG VP : List Is} {X : List (List Int)} (h : WkAt w ga gn gc pa pn pc VG VP X) (k : Kp w w') : WkAt w' ga gn gc pa pn pc VG VP X := ⟨h.gn, h.pn, h.gi.keep k, h.pi.keep k, h.eg, h.ep, h.right⟩
theorem WkAt.len {w : World} {ga : Option Addr} {gn gc : Nat} {pa : Option Addr} {pn pc : Nat} {VG VP : List Is} {X : List (List Int)} (h : WkAt w ga gn gc pa pn pc VG VP X) : gn = X.length ∧ gn ≤ 64 := by
 have h1 : gn = X.length := by rw [h.gn, ← h.eg, List.length_map]
 have h2 := h.right
 unfold Cp.rightI at h2
 rw [Bool.and_eq_true] at h2
 have := of_decide_eq_true h2.1
 exact ⟨h1, by omega⟩
theorem WkAt.plen {w : World} {ga : Option Addr} {gn gc : Nat} {pa : Option Addr} {pn pc : Nat} {VG VP : List Is} {X : List (List Int)} (h : WkAt w ga gn gc pa pn pc VG VP X) : pn = (Cp.partsI X).length ∧ pn ≤ 64 := by
 have h1 : pn = (Cp.partsI X).length := by rw [h.pn, ← h.ep, List.length_map]
 have := Cp.place_small (Cp.right_RG h.right) 0
 have h2 : (Cp.partsI X).length ≤ 64 := by unfold Cp.partsI; rw [h.right, if_pos rfl, Cp.intsG_len]; exact this.2.2
 exact ⟨h1, by omega⟩

set_option maxRecDepth 100000 in
set_option maxHeartbeats 1000000 in
theorem with1_any (w : World) (a : Option Addr) (n c : Nat) (zs : List Int) (hn : n = zs.length) (hs : n ≤ 9223372036854775807) (hz : Ints w a zs) (bk : Nat) (x : Int) (hb : w.heap[bk]? = some (.cells #[.int .i64 x] 3 (0, 0))) :
  Calls Tryz.prog 79 #[.slice a n c, .pointer (some ⟨bk, 0, none⟩)] w fun e w' => e = .returned (.bool (zs.contains x)) ∧ Chg [] w w' := by
 have H := Lib.hid (contains_any w a n c zs hn hs hz x)
 obtain ⟨R, hR⟩ : ∃ R, R = zs.contains x := ⟨_, rfl⟩
 rw [← hR] at H ⊢
 have hbk := lt_of_block hb
 have c0 := cells1 hb
 clear hn hz hR hb
 go_enter Tryz.func79, Tryz.ntmps79
 go_wp2_with fail
 refine H.out.mono ?_
 rintro e w1 ⟨rfl, hc⟩
 have H1 := Lib.hid hc
 clear hc
 go_wp2_with fail
 go_ret
 exact ⟨rfl, H1.out⟩

set_option maxRecDepth 100000 in
set_option maxHeartbeats 2000000 in
theorem idxRow_any (w : World) (a : Option Addr) (n c : Nat) (VS : List Is) (g : Nat) (lb : Array Value) (p : Is → Bool) (hn : n = VS.length) (hs : n ≤ 9223372036854775807) (hr : IntRows w a VS)
  (hp : ∀ i (h : i < VS.length) w1, Chg [] w w1 → Calls Tryz.prog g (#[VS[i].cell] ++ lb) w1 fun e w2 => e = .returned (.bool (p VS[i])) ∧ Chg [] w1 w2)
  (eg : ∀ args w, (callFunc g args).run Tryz.prog w = .ok (.enter g args) w) :
  Calls Tryz.prog 78 #[.slice a n c, .func (.func g) #[] lb] w fun e w' => e = .returned (.int .i64 (idxI VS p)) ∧ Chg [] w w' := by
 have H := Lib.hid (And.intro hn (And.intro hr hp))
 clear hn hr hp
 go_enter Tryz.func78, Tryz.ntmps78
 go_wp2_with fail
 go_loopg [8] n (fun d iv wr => ∃ k : Nat, d = n - k ∧ k ≤ n ∧ iv = .int .i64 k ∧ Chg [] w wr ∧ Hid (∀ j (h : j < VS.length), j < k → p VS[j] = false))
 case atStart => exact ⟨0, rfl, Nat.zero_le _, rfl, Chg.refl _ _, Lib.hid (fun j _ h => by omega)⟩
 case round =>
  obtain ⟨k, rfl, hk, rfl, hcw, hb⟩ := hrel
  have HC := Lib.hid hcw
  clear hcw
  by_cases hlt : k < n
  ·have hk' : k < VS.length := by have := H.out.1; omega
   obtain ⟨b, o, rfl, h1, -, -⟩ := (H.out.2.1.keep HC.out.kp) k hk'
   have hcall := H.out.2.2 k hk'
   have hbk := World.block_lt_of_cell? _ _ h1
   simp only at hbk
   obtain ⟨r, hr⟩ : ∃ r, r = VS[k] := ⟨_, rfl⟩
   rw [← hr] at hcall h1
   obtain ⟨sa, sc, sz⟩ := r
   simp only [Is.cell] at hcall h1
   obtain ⟨sl, hsl⟩ : ∃ sl, sl = sz.length := ⟨_, rfl⟩
   rw [← hsl] at hcall h1
   have HR := Lib.hid (And.intro hr hcall)
   clear hcall hr hsl
   go_wp2_with fail
   refine (HR.out.2 _ HC.out).mono ?_
   rintro e w1 ⟨rfl, hc1⟩
   have H1 := Lib.hid hc1
   clear hc1
   cases hp : p (sa, sc, sz)
   ·go_wp2
    go_roundg (n - (k + 1))
    case measure => omega
    case rel =>
     refine ⟨k + 1, rfl, by omega, by go_num, HC.out.tr H1.out, Lib.hid fun j h hj => ?_⟩
     by_cases e : j = k
     ·subst e; rw [← HR.out.1]; exact hp
     ·exact hb.out j h (by omega)
   ·go_wp2
    go_ret
    refine ⟨ret_int ?_, HC.out.tr H1.out⟩
    have hk' : k < VS.length := by have := H.out.1; omega
    have hf := findIdx_at hk' (by rw [← HR.out.1]; exact hp) (fun j hj => hb.out j (by omega) hj)
    unfold idxI
    rw [hf, if_pos hk']
  ·obtain rfl : k = n := by omega
   go_wp2
   go_ret
   refine ⟨ret_int ?_, HC.out⟩
   have hf := findIdx_none (p := p) (l := VS) (fun j hj => hb.out j hj (by have := H.out.1; omega))
   unfold idxI
   rw [hf, if_neg (by omega)]

/-- The place of a number's part is found. -/
theorem idx_part {w : World} {ga : Option Addr} {gn gc : Nat} {pa : Option Addr} {pn pc : Nat} {VG VP : List Is} {X : List (List Int)} (h : WkAt w ga gn gc pa pn pc VG VP X) {i : Nat} (hi : i < X.length) :
  ∃ p : Nat, ∃ hp : p < VP.length, idxI VP (fun q => q.2.2.contains (i : Int)) = (p : Int) ∧ VP[p].2.2 = withI X i ∧ (p : Int) = Cp.partI X i := by
 obtain ⟨p, hpi, hpl, hw, _, hm⟩ := so_part h.right hi
 have hlen : VP.length = (Cp.partsI X).length := by rw [← h.ep, List.length_map]
 have hrow : ∀ j (hj : j < VP.length), VP[j].2.2 = (Cp.partsI X)[j]'(by omega) := fun j hj => by simp [← h.ep]
 have hj : VP.findIdx (fun q => q.2.2.contains (i : Int)) < VP.length := by
  rw [List.findIdx_lt_length]
  refine ⟨VP[p]'(by omega), List.getElem_mem _, ?_⟩
  have h1 : (Cp.partsI X)[p] = withI X i := by rw [hw]; simp [hpl]
  rw [List.contains_iff_mem, hrow p (by omega), h1]
  exact with_self h.right hi
 obtain ⟨f, hf⟩ : ∃ f, f = VP.findIdx (fun q => q.2.2.contains (i : Int)) := ⟨_, rfl⟩
 have hfl : f < VP.length := by rw [hf]; exact hj
 have h1 : (i : Int) ∈ (Cp.partsI X)[f]'(by omega) := by
  have := List.findIdx_getElem (w := hj)
  simp only [← hf] at this
  rw [← hrow f hfl]
  exact List.contains_iff_mem.1 this
 have h2 : ∀ j, j < f → ∀ l, (Cp.partsI X)[j]? = some l → (i : Int) ∉ l := fun j hjf l hl hm => by
  have h3 := List.not_of_lt_findIdx (p := fun q : Is => q.2.2.contains (i : Int)) (xs := VP) (i := j) (by rw [← hf]; exact hjf)
  have h4 : (Cp.partsI X)[j]'(by omega) = l := by
   rw [List.getElem?_eq_getElem (by omega)] at hl
   exact Option.some.inj hl
  rw [hrow j (by omega), h4] at h3
  exact absurd (List.contains_iff_mem.2 hm) (by simpa using h3)
 have h5 := placeZ_at (L := Cp.partsI X) (a := (i : Int)) (i := f) (by omega) h2 h1
 rw [Cp.placeZ_parts] at h5
 have h6 : f = p := by omega
 refine ⟨f, hfl, ?_, ?_, h5.symm⟩
 ·unfold idxI
  rw [← hf, if_pos hfl]
 ·rw [hrow f hfl, hw]
  subst h6
  simp [hpl]
def WithF (w : World) (VP : List Is) (zs : List Int) (e : Ending) (w' : World) : Prop := ∃ p, ∃ hp : p < VP.length, VP[p].2.2 = zs ∧ e = .returned VP[p].cell ∧ Chg [] w w'

set_option maxRecDepth 100000 in
set_option maxHeartbeats 4000000 in
theorem withC_any (w : World) (ga : Option Addr) (gn gc : Nat) (pa : Option Addr) (pn pc : Nat) (VG VP : List Is) (X : List (List Int)) (h : WkAt w ga gn gc pa pn pc VG VP X) (i : Nat) (hi : i < X.length) :
  Calls Tryz.prog 45 #[.agg #[.slice ga gn gc, .slice pa pn pc], .int .i64 i] w (WithF w VP (withI X i)) := by
 have H := Lib.hid (And.intro h hi)
 have hpn := h.plen.2
 clear h hi
 go_enter Tryz.func45, Tryz.ntmps45
 go_wp2_with fail
 obtain ⟨W, hW⟩ : ∃ W, W = (w.alloc (.cells #[.slice ga gn gc, .slice pa pn pc] 72)).alloc (.cells #[.int .i64 i] 3) := ⟨_, rfl⟩
 have hcW : Chg [] w W := by rw [hW]; exact ((Chg.refl [] w).alloc _).alloc _
 have hb0 : W.heap[w.heap.size]? = some (.cells #[.slice ga gn gc, .slice pa pn pc] 72 (0, 0)) := by rw [hW]; exact heap_alloc_lt (heap_alloc_same _ _) _
 have hb1 : W.heap[w.heap.size + 1]? = some (.cells #[.int .i64 i] 3 (0, 0)) := by
  rw [hW]
  have := heap_alloc_same (w.alloc (.cells #[.slice ga gn gc, .slice pa pn pc] 72)) (.cells #[.int .i64 i] 3)
  rwa [World.size_alloc] at this
 rw [← hW]
 have hwk := H.out.1.keep hcW.kp
 obtain ⟨p, hp, hidx, hrow, hpi⟩ := idx_part H.out.1 H.out.2
 obtain ⟨pb, po, rfl, hcell, -, -⟩ := hwk.pi p hp
 have x1 := (cells2 hb0).2
 have hb1' := lt_of_block hb1
 have hb0' := lt_of_block hb0
 have hpl : p < pn := by have := H.out.1.pn; omega
 obtain ⟨sa, hsa⟩ : ∃ v, v = VP[p].1 := ⟨_, rfl⟩
 obtain ⟨sl, hsl⟩ : ∃ v, v = VP[p].2.2.length := ⟨_, rfl⟩
 obtain ⟨sc, hsc⟩ : ∃ v, v = VP[p].2.1 := ⟨_, rfl⟩
 have hv : VP[p].cell = .slice sa sl sc := by rw [hsa, hsl, hsc]; rfl
 rw [hv] at hcell
 clear hsa hsl hsc
 have cA := calls_rg (w := W) (fun w1 h1 => by
  have := idxRow_any w1 (some ⟨pb, po, none⟩) pn pc VP 79 #[.pointer (some ⟨w.heap.size + 1, 0, none⟩)] (fun q => q.2.2.contains (i : Int)) H.out.1.pn (by omega) (hwk.pi.keep h1.kp)
   (fun j hj w2 h2 => by
    obtain ⟨b, o, e, hc, hz, hl⟩ := (hwk.pi.keep (h1.tr h2).kp) j hj
    exact with1_any w2 VP[j].1 VP[j].2.2.length VP[j].2.1 VP[j].2.2 rfl hl hz (w.heap.size + 1) i ((h1.tr h2).heap hb1 (by simp)))
   (enters_of Tryz.func79 (by kernel_rfl) rfl)
  rw [hidx] at this
  exact this)
 have kx := cell_rg x1
 have ky := cell_rg hcell
 have HP := Lib.hid (And.intro hp (And.intro hrow (And.intro hv hcW)))
 clear hwk hidx hrow hpi hcell x1 hb0 hb1 hv hcW hW
 refine wp_region_quiet_below (by kernel_rfl) (by kernel_rfl) ?_
 repeat (go_big_quiet_step (first | (with_reducible exact cA _ _)))
 refine wpQuiet_nil ?_
 intro w4 hw4
 have H4 := Lib.hid (HP.out.2.2.2.tr (chg_of_rg hw4))
 clear hw4 cA kx ky
 go_wp2_with fail
 go_ret
 exact ⟨p, HP.out.1, HP.out.2.1, by rw [HP.out.2.2.1]; rfl, H4.out⟩

set_option maxRecDepth 100000 in
set_option maxHeartbeats 2000000 in
theorem itselfC_any (w : World) (ga : Option Addr) (gn gc : Nat) (pa : Option Addr) (pn pc : Nat) (VG VP : List Is) (X : List (List Int)) (h : WkAt w ga gn gc pa pn pc VG VP X) (i : Nat) (hi : i < X.length) :
  Calls Tryz.prog 108 #[.agg #[.slice ga gn gc, .slice pa pn pc], .int .i64 i] w fun e w' => e = .returned (.bool (itI X i)) ∧ Chg [] w w' := by
 have hig : i < VG.length := by rw [← h.gn, h.len.1]; exact hi
 have hcA := (Chg.refl [] w).alloc (.cells #[.slice ga gn gc, .slice pa pn pc] 72)
 obtain ⟨gb, go, rfl, hcell, hz, hl⟩ := (h.gi.keep hcA.kp) i hig
 have hit : itI X i = VG[i].2.2.contains (i : Int) := by
  unfold itI
  rw [Int.toNat_natCast, ← h.eg]
  simp [hig]
 obtain ⟨R, hR⟩ : ∃ R, R = itI X i := ⟨_, rfl⟩
 obtain ⟨sa, hsa⟩ : ∃ v, v = VG[i].1 := ⟨_, rfl⟩
 obtain ⟨zs, hzs⟩ : ∃ v, v = VG[i].2.2 := ⟨_, rfl⟩
 obtain ⟨sl, hsl⟩ : ∃ v, v = zs.length := ⟨_, rfl⟩
 obtain ⟨sc, hsc⟩ : ∃ v, v = VG[i].2.1 := ⟨_, rfl⟩
 simp only [Is.cell] at hcell
 rw [← hsa, ← hzs, ← hsc, ← hsl] at hcell
 rw [← hsa, ← hzs] at hz
 rw [← hzs] at hl hit
 have HC := Lib.hid (contains_any _ sa sl sc zs hsl (by omega) hz i)
 rw [← hit, ← hR] at HC
 rw [← hR]
 have hgl : i < gn := by have := h.gn; omega
 have HA := Lib.hid hcA
 clear hz hl hsa hzs hsl hsc hit hR hcA h hi hig
 go_enter Tryz.func108, Tryz.ntmps108
 go_wp2_with fail
 refine HC.out.mono ?_
 rintro e w1 ⟨rfl, hc⟩
 have H1 := Lib.hid (HA.out.tr hc)
 clear hc hcell
 go_wp2_with fail
 go_ret
 exact ⟨rfl, H1.out⟩

set_option maxRecDepth 100000 in
set_option maxHeartbeats 2000000 in
theorem othersC_any (w : World) (ga : Option Addr) (gn gc : Nat) (pa : Option Addr) (pn pc : Nat) (VG VP : List Is) (X : List (List Int)) (h : WkAt w ga gn gc pa pn pc VG VP X) (i : Nat) (hi : i < X.length) :
  Calls Tryz.prog 109 #[.agg #[.slice ga gn gc, .slice pa pn pc], .int .i64 i] w fun e w' => e = .returned (.bool (othI X i)) ∧ Chg [] w w' := by
 have hcA := (Chg.refl [] w).alloc (.cells #[.slice ga gn gc, .slice pa pn pc] 72)
 have HC := Lib.hid (withC_any _ ga gn gc pa pn pc VG VP X (h.keep hcA.kp) i hi)
 have HA := Lib.hid hcA
 obtain ⟨R, hR⟩ : ∃ R, R = othI X i := ⟨_, rfl⟩
 rw [← hR]
 have HR := Lib.hid hR
 clear hcA h hi hR
 go_enter Tryz.func109, Tryz.ntmps109
 go_wp2_with fail
 refine HC.out.mono ?_
 rintro e w1 ⟨p, hp, hrow, rfl, hc⟩
 obtain ⟨sl, hsl⟩ : ∃ v, v = VP[p].2.2.length := ⟨_, rfl⟩
 simp only [Is.cell]
 rw [← hsl]
 have hR2 : R = decide (1 < sl) := by rw [HR.out, othI, ← hrow, hsl]
 have H1 := Lib.hid (And.intro (HA.out.tr hc) hR2)
 clear hc hrow hsl hR2
 go_wp2_with fail
 go_ret
 exact ⟨ret_bool (by rw [H1.out.2]; exact decide_eq_decide.2 (by omega)), H1.out.1⟩


set_option maxRecDepth 100000 in
set_option maxHeartbeats 2000000 in
theorem directC_any (w : World) (ga : Option Addr) (gn gc : Nat) (pa : Option Addr) (pn pc : Nat) (VG VP : List Is) (X : List (List Int)) (h : WkAt w ga gn gc pa pn pc VG VP X) (i : Nat) (hi : i < X.length) :
  Calls Tryz.prog 75 #[.agg #[.slice ga gn gc, .slice pa pn pc], .int .i64 i] w fun e w' => e = .returned (.bool (itI X i && !othI X i)) ∧ Chg [] w w' := by
 have hb := heap_alloc_same w (.cells #[.slice ga gn gc, .slice pa pn pc] 74)
 have hcA := (Chg.refl [] w).alloc (.cells #[.slice ga gn gc, .slice pa pn pc] 74)
 obtain ⟨it, hit⟩ : ∃ R, R = itI X i := ⟨_, rfl⟩
 obtain ⟨ot, hot⟩ : ∃ R, R = othI X i := ⟨_, rfl⟩
 have HC := Lib.hid (itselfC_any _ ga gn gc pa pn pc VG VP X (h.keep hcA.kp) i hi)
 have HD := Lib.hid (fun w1 (hk : Chg [] _ w1) => othersC_any w1 ga gn gc pa pn pc VG VP X ((h.keep hcA.kp).keep hk.kp) i hi)
 rw [← hit] at HC
 rw [← hot] at HD
 rw [← hit, ← hot]
 have HA := Lib.hid (And.intro hb hcA)
 clear h hi hit hot hb hcA
 go_enter Tryz.func75, Tryz.ntmps75
 obtain ⟨x0, x1⟩ := cells2 HA.out.1
 go_wp2_with fail
 refine HC.out.mono ?_
 rintro e w1 ⟨rfl, hc⟩
 clear x0 x1
 obtain ⟨x0, x1⟩ := cells2 (hc.heap HA.out.1 (by simp))
 have hl := lt_of_block (hc.heap HA.out.1 (by simp))
 have H1 := Lib.hid hc
 clear hc
 cases it with
 | false =>
  go_wp2_with fail
  go_ret
  exact ⟨rfl, HA.out.2.tr H1.out⟩
 | true =>
  go_wp2_with fail
  refine (HD.out _ H1.out).mono ?_
  rintro e w2 ⟨rfl, hc⟩
  have H2 := Lib.hid ((HA.out.2.tr H1.out).tr hc)
  clear hc x0 x1
  go_wp2_with fail
  go_ret
  exact ⟨by cases ot <;> rfl, H2.out⟩

set_option maxRecDepth 100000 in
set_option maxHeartbeats 2000000 in
theorem indirectC_any (w : World) (ga : Option Addr) (gn gc : Nat) (pa : Option Addr) (pn pc : Nat) (VG VP : List Is) (X : List (List Int)) (h : WkAt w ga gn gc pa pn pc VG VP X) (i : Nat) (hi : i < X.length) :
  Calls Tryz.prog 76 #[.agg #[.slice ga gn gc, .slice pa pn pc], .int .i64 i] w fun e w' => e = .returned (.bool (!itI X i && othI X i)) ∧ Chg [] w w' := by
 have hb := heap_alloc_same w (.cells #[.slice ga gn gc, .slice pa pn pc] 74)
 have hcA := (Chg.refl [] w).alloc (.cells #[.slice ga gn gc, .slice pa pn pc] 74)
 obtain ⟨it, hit⟩ : ∃ R, R = itI X i := ⟨_, rfl⟩
 obtain ⟨ot, hot⟩ : ∃ R, R = othI X i := ⟨_, rfl⟩
 have HC := Lib.hid (itselfC_any _ ga gn gc pa pn pc VG VP X (h.keep hcA.kp) i hi)
 have HD := Lib.hid (fun w1 (hk : Chg [] _ w1) => othersC_any w1 ga gn gc pa pn pc VG VP X ((h.keep hcA.kp).keep hk.kp) i hi)
 rw [← hit] at HC
 rw [← hot] at HD
 rw [← hit, ← hot]
 have HA := Lib.hid (And.intro hb hcA)
 clear h hi hit hot hb hcA
 go_enter Tryz.func76, Tryz.ntmps76
 obtain ⟨x0, x1⟩ := cells2 HA.out.1
 go_wp2_with fail
 refine HC.out.mono ?_
 rintro e w1 ⟨rfl, hc⟩
 clear x0 x1
 obtain ⟨x0, x1⟩ := cells2 (hc.heap HA.out.1 (by simp))
 have hl := lt_of_block (hc.heap HA.out.1 (by simp))
 have H1 := Lib.hid hc
 clear hc
 cases it with
 | true =>
  go_wp2_with fail
  go_ret
  exact ⟨rfl, HA.out.2.tr H1.out⟩
 | false =>
  go_wp2_with fail
  refine (HD.out _ H1.out).mono ?_
  rintro e w2 ⟨rfl, hc⟩
  have H2 := Lib.hid ((HA.out.2.tr H1.out).tr hc)
  clear hc x0 x1
  go_wp2_with fail
  go_ret
  exact ⟨by cases ot <;> rfl, H2.out⟩

set_option maxRecDepth 100000 in
set_option maxHeartbeats 2000000 in
theorem bothC_any (w : World) (ga : Option Addr) (gn gc : Nat) (pa : Option Addr) (pn pc : Nat) (VG VP : List Is) (X : List (List Int)) (h : WkAt w ga gn gc pa pn pc VG VP X) (i : Nat) (hi : i < X.length) :
  Calls Tryz.prog 77 #[.agg #[.slice ga gn gc, .slice pa pn pc], .int .i64 i] w fun e w' => e = .returned (.bool (itI X i && othI X i)) ∧ Chg [] w w' := by
 have hb := heap_alloc_same w (.cells #[.slice ga gn gc, .slice pa pn pc] 74)
 have hcA := (Chg.refl [] w).alloc (.cells #[.slice ga gn gc, .slice pa pn pc] 74)
 obtain ⟨it, hit⟩ : ∃ R, R = itI X i := ⟨_, rfl⟩
 obtain ⟨ot, hot⟩ : ∃ R, R = othI X i := ⟨_, rfl⟩
 have HC := Lib.hid (itselfC_any _ ga gn gc pa pn pc VG VP X (h.keep hcA.kp) i hi)
 have HD := Lib.hid (fun w1 (hk : Chg [] _ w1) => othersC_any w1 ga gn gc pa pn pc VG VP X ((h.keep hcA.kp).keep hk.kp) i hi)
 rw [← hit] at HC
 rw [← hot] at HD
 rw [← hit, ← hot]
 have HA := Lib.hid (And.intro hb hcA)
 clear h hi hit hot hb hcA
 go_enter Tryz.func77, Tryz.ntmps77
 obtain ⟨x0, x1⟩ := cells2 HA.out.1
 go_wp2_with fail
 refine HC.out.mono ?_
 rintro e w1 ⟨rfl, hc⟩
 clear x0 x1
 obtain ⟨x0, x1⟩ := cells2 (hc.heap HA.out.1 (by simp))
 have hl := lt_of_block (hc.heap HA.out.1 (by simp))
 have H1 := Lib.hid hc
 clear hc
 cases it with
 | false =>
  go_wp2_with fail
  go_ret
  exact ⟨rfl, HA.out.2.tr H1.out⟩
 | true =>
  go_wp2_with fail
  refine (HD.out _ H1.out).mono ?_
  rintro e w2 ⟨rfl, hc⟩
  have H2 := Lib.hid ((HA.out.2.tr H1.out).tr hc)
  clear hc x0 x1
  go_wp2_with fail
  go_ret
  exact ⟨by cases ot <;> rfl, H2.out⟩

set_option maxRecDepth 100000 in
set_option maxHeartbeats 2000000 in
theorem thereC_any (w : World) (ga : Option Addr) (gn gc : Nat) (pa : Option Addr) (pn pc : Nat) (VG VP : List Is) (X : List (List Int)) (h : WkAt w ga gn gc pa pn pc VG VP X) (i : Int) :
  Calls Tryz.prog 43 #[.agg #[.slice ga gn gc, .slice pa pn pc], .int .i64 i] w fun e w' => e = .returned (.bool (inX X i)) ∧ Chg [] w w' := by
 have hl := h.len
 have HX := Lib.hid hl.1
 have h64 := hl.2
 clear h hl
 go_enter Tryz.func43, Tryz.ntmps43
 by_cases h0 : 0 ≤ i
 ·by_cases h1 : i < gn
  ·go_wp2_with fail
   go_ret
   exact ⟨ret_bool (by unfold inX; rw [← HX.out]; simp [h0, h1]), (Chg.refl [] w).alloc _⟩
  ·go_wp2_with fail
   go_ret
   exact ⟨ret_bool (by unfold inX; rw [← HX.out]; simp [h0, h1]), (Chg.refl [] w).alloc _⟩
 ·go_wp2_with fail
  go_ret
  exact ⟨ret_bool (by unfold inX; rw [← HX.out]; simp; omega), (Chg.refl [] w).alloc _⟩
end Go.Proofs.YtlklmpjakeedcaaGreatDoor

/-
  The parts, a number's part, whether it is a ring, by the package.
  Conditions: the rows read as data.
-/
import Derived.Test.YtplpboknmhgpiaaCEdCpOf
set_option linter.unusedVariables false
set_option linter.unusedSimpArgs false
set_option linter.unnecessarySimpa false
namespace Go.Proofs.Ytplpboknmhgpiaa
open Go.RowKit Go.MapKept Go.Shelf

/-- Rows of numbers of one's own are told. -/
def TabP (w : World) (x : List (List Int)) (e : Ending) (w' : World) : Prop :=
  ∃ (la : Option Addr) (lc : Nat) (VS : List Is), e = .returned (.slice la VS.length lc) ∧ OwnIs w.heap.size w' la lc VS ∧ VS.map (·.2.2) = x ∧ Chg [] w w'

set_option maxRecDepth 100000 in
set_option maxHeartbeats 4000000 in
theorem parts_any (w : World) (ga : Option Addr) (n gc : Nat) (VG : List Is) (hn : n = VG.length) (hgc : n ≤ gc ∧ gc ≤ 9223372036854775807) (hx : IntRows w ga VG) :
    Calls Try.prog 11 #[.slice ga n gc] w (TabP w (Cp.partsI (VG.map (·.2.2)))) := by
  obtain ⟨X, hX⟩ : ∃ X, X = VG.map (·.2.2) := ⟨_, rfl⟩
  have hof := compOf_any w ga n gc VG hn hgc hx
  rw [← hX] at hof ⊢
  have H := Lib.hid hof
  clear hn hx hX hof
  go_enter Try.func11, Try.ntmps11
  go_wp2_with fail
  refine H.out.mono ?_
  rintro e w1 (⟨hr, rfl, hc⟩ | ⟨hr, sb, s, rfl, hc, hS⟩)
  · have H1 := Lib.hid (And.intro hr hc)
    clear hr hc
    go_wp2_with fail
    go_ret
    exact ⟨none, 0, [], rfl, OwnIs.nil _ _, by unfold Cp.partsI; rw [H1.out.1]; rfl, H1.out.2⟩
  · obtain ⟨A, M, K, P, la, lc, VS, hS⟩ := hS
    obtain ⟨-, -, -, -, -, x5, -⟩ := hS.cells
    have H1 := Lib.hid (And.intro hr (And.intro hc hS))
    obtain ⟨m, hm⟩ : ∃ m, m = VS.length := ⟨_, rfl⟩
    rw [← hm] at x5
    have HM := Lib.hid hm
    clear hr hc hS hm
    go_wp2_with fail
    go_ret
    refine ⟨la, lc, VS, by rw [← HM.out]; rfl, H1.out.2.2.own, ?_, H1.out.2.1⟩
    rw [H1.out.2.2.parts]
    unfold Cp.partsI
    rw [H1.out.1]; rfl

set_option maxRecDepth 100000 in
set_option maxHeartbeats 4000000 in
theorem part_any (w : World) (ga : Option Addr) (n gc : Nat) (VG : List Is) (hn : n = VG.length) (hgc : n ≤ gc ∧ gc ≤ 9223372036854775807) (hx : IntRows w ga VG) (x : Int) (hxx : I64 x) :
    Calls Try.prog 14 #[.slice ga n gc, .int .i64 x] w fun e w' => e = .returned (.int .i64 (Cp.partI (VG.map (·.2.2)) x)) ∧ Chg [] w w' := by
  obtain ⟨X, hX⟩ : ∃ X, X = VG.map (·.2.2) := ⟨_, rfl⟩
  have hof := compOf_any w ga n gc VG hn hgc hx
  rw [← hX] at hof ⊢
  obtain ⟨R, hR⟩ : ∃ R, R = Cp.partI X x := ⟨_, rfl⟩
  rw [← hR]
  have hnX : n = X.length := by rw [hn, hX, List.length_map]
  have H := Lib.hid (And.intro hof (And.intro hR hnX))
  clear hn hx hX hof hR hnX
  go_enter Try.func14, Try.ntmps14
  go_wp2_with fail
  refine H.out.1.mono ?_
  rintro e w1 (⟨hr, rfl, hc⟩ | ⟨hr, sb, s, rfl, hc, hS⟩)
  · have H1 := Lib.hid (And.intro hr hc)
    clear hr hc
    go_wp2_with fail
    go_ret
    refine ⟨?_, H1.out.2⟩
    rw [H.out.2.1]; unfold Cp.partI; rw [H1.out.1]; rfl
  · obtain ⟨A, M, K, P, la, lc, VS, hS⟩ := hS
    have H1 := Lib.hid (And.intro hr (And.intro hc hS))
    clear hr hc hS
    go_wp2_with fail
    refine (number_any w1 ga n gc x (by omega)).mono ?_
    rintro e w2 ⟨rfl, hc2⟩
    obtain ⟨r2, hr2⟩ : ∃ r2, r2 = (decide (0 ≤ x) && decide (x < (n : Int))) := ⟨_, rfl⟩
    rw [← hr2]
    have H2 := Lib.hid (And.intro hr2 hc2)
    clear hr2 hc2
    cases r2 with
    | false =>
      go_wp2_with fail
      go_ret
      refine ⟨?_, H1.out.2.1.tr H2.out.2⟩
      rw [H.out.2.1]; unfold Cp.partI Cp.numI
      rw [← H.out.2.2, ← H2.out.1]; simp
    | true =>
      obtain ⟨a, ha, han⟩ : ∃ a : Nat, x = (a : Int) ∧ a < n := by
        have := H2.out.1
        simp at this
        exact ⟨x.toNat, by omega, by omega⟩
      subst ha
      have hS := H1.out.2.2.chg0 H2.out.2
      obtain ⟨gp, -, -, -, -, ep, p1, p2, xp, -, -, -⟩ := hS.putP han 0
      obtain ⟨-, -, -, -, x4, -, -⟩ := hS.cells
      rw [ep] at x4
      obtain ⟨pc, hpc⟩ : ∃ pc, pc = P.2.1 := ⟨_, rfl⟩
      rw [← hpc] at x4 p1 p2
      have xp' : w2.cell? ⟨gp, a, none⟩ = some (.int .i64 (Cp.placeR (Cp.partsR (Cp.toG X)) a)) := xp
      have hRR : Cp.placeR (Cp.partsR (Cp.toG X)) a = R := by
        rw [H.out.2.1]; unfold Cp.partI
        rw [H1.out.1, Cp.numI_nat (by rw [← H.out.2.2]; exact han)]; simp
      rw [hRR] at xp'
      clear hS ep hpc xp hRR
      go_wp2_with fail
      go_ret
      exact ⟨rfl, H1.out.2.1.tr H2.out.2⟩

set_option maxRecDepth 100000 in
set_option maxHeartbeats 4000000 in
theorem index_any (w : World) (a : Option Addr) (n c : Nat) (zs : List Int) (hn : n = zs.length) (hs : n ≤ 9223372036854775807) (hz : Ints w a zs) (x : Int) :
    Calls Try.prog 55 #[.slice a n c, .int .i64 x] w fun e w' => ∃ k : Int, e = .returned (.int .i64 k) ∧ decide (0 ≤ k) = zs.contains x ∧ Chg [] w w' := by
  have H := Lib.hid (And.intro hn hz)
  clear hn hz
  go_enter Try.func55, Try.ntmps55
  go_wp2_with fail
  go_loopg [8] n (fun d iv wr => ∃ i : Nat, d = n - i ∧ i ≤ n ∧ iv = .int .i64 i ∧ Hid ((∀ j y, j < i → zs[j]? = some y → y ≠ x) ∧ Chg [] w wr))
  case atStart => exact ⟨0, rfl, Nat.zero_le _, rfl, Lib.hid ⟨fun j y h => absurd h (Nat.not_lt_zero _), Chg.refl _ _⟩⟩
  case round =>
    obtain ⟨i, rfl, hi, rfl, hin⟩ := hrel
    obtain ⟨wq, rfl⟩ : ∃ wz, wz = wr := ⟨_, rfl⟩
    by_cases hlt : i < n
    · have hil : i < zs.length := by have := H.out.1; omega
      obtain ⟨b, o, rfl, hc⟩ := (H.out.2.keep hin.out.2.kp) i hil
      obtain ⟨z, hz⟩ : ∃ z, z = zs[i] := ⟨_, rfl⟩
      rw [← hz] at hc
      have hzz : zs[i]? = some z := by rw [List.getElem?_eq_getElem hil, hz]
      have HZ := Lib.hid hzz
      clear hz hzz
      by_cases hxz : x = z
      · have hq : (x == z) = true := by simpa using hxz
        have HX := Lib.hid hxz
        clear hxz
        go_wp2_with fail
        go_ret
        refine ⟨i, rfl, ?_, hin.out.2⟩
        have hm : x ∈ zs := by rw [HX.out]; exact List.mem_of_getElem? HZ.out
        simp [hm]
      · have hq : (x == z) = false := by simpa using hxz
        have HX := Lib.hid hxz
        clear hxz
        go_wp2_with fail
        go_roundg (n - (i + 1))
        case measure => omega
        case rel => exact ⟨i + 1, rfl, by omega, by go_num, Lib.hid ⟨fun j y hj hy => by
          rcases Nat.lt_or_ge j i with h | h
          · exact hin.out.1 j y h hy
          · obtain rfl : j = i := by omega
            rw [HZ.out] at hy
            simp only [Option.some.injEq] at hy
            exact fun e => HX.out (by rw [hy, e]), hin.out.2⟩⟩
    · obtain rfl : i = n := by omega
      go_wp2_with fail
      go_ret
      refine ⟨-1, rfl, ?_, hin.out.2⟩
      have hm : x ∉ zs := fun hm => by
        obtain ⟨j, hj, hjx⟩ := List.getElem_of_mem hm
        exact hin.out.1 j x (by have := H.out.1; omega) (by rw [List.getElem?_eq_getElem hj, hjx]) rfl
      simp [hm]

set_option maxRecDepth 100000 in
set_option maxHeartbeats 4000000 in
theorem contains_any (w : World) (a : Option Addr) (n c : Nat) (zs : List Int) (hn : n = zs.length) (hs : n ≤ 9223372036854775807) (hz : Ints w a zs) (x : Int) :
    Calls Try.prog 46 #[.slice a n c, .int .i64 x] w fun e w' => e = .returned (.bool (zs.contains x)) ∧ Chg [] w w' := by
  have H := Lib.hid (index_any w a n c zs hn hs hz x)
  obtain ⟨R, hR⟩ : ∃ R, R = zs.contains x := ⟨_, rfl⟩
  rw [← hR] at H ⊢
  clear hn hz hR
  go_enter Try.func46, Try.ntmps46
  go_wp2_with fail
  refine H.out.mono ?_
  rintro e w1 ⟨k, rfl, hk, hc⟩
  have H1 := Lib.hid (And.intro hk hc)
  clear hk hc
  go_wp2_with fail
  go_ret
  exact ⟨ret_bool (by rw [← H1.out.1]), H1.out.2⟩

set_option maxRecDepth 100000 in
set_option maxHeartbeats 4000000 in
theorem self_any (w : World) (a : Option Addr) (n c : Nat) (VG : List Is) (hn : n = VG.length) (hs : n ≤ 9223372036854775807) (hx : IntRows w a VG) (i : Nat) (hi : i < n) :
    Calls Try.prog 31 #[.slice a n c, .int .i64 i] w fun e w' => e = .returned (.bool (((VG.map (·.2.2)).getD i []).contains (i : Int))) ∧ Chg [] w w' := by
  obtain ⟨b, o, rfl, hc, hz, hl⟩ := hx i (by omega)
  have hg : (VG.map (·.2.2)).getD i [] = VG[i].2.2 := by simp [show i < VG.length by omega]
  rw [hg]
  obtain ⟨ra, rc, zs, hV⟩ : ∃ ra rc zs, VG[i] = (ra, rc, zs) := ⟨_, _, _, rfl⟩
  rw [hV] at hc hz hl ⊢
  dsimp only at hz hl ⊢
  rw [Is.cell] at hc
  dsimp only at hc
  have H := Lib.hid (contains_any w ra zs.length rc zs rfl hl hz i)
  obtain ⟨R, hR⟩ : ∃ R, R = zs.contains (i : Int) := ⟨_, rfl⟩
  rw [← hR] at H ⊢
  obtain ⟨m, hm⟩ : ∃ m, m = zs.length := ⟨_, rfl⟩
  rw [← hm] at H hc hl
  clear hn hz hR hx hg hV hm
  go_enter Try.func31, Try.ntmps31
  go_wp2_with fail
  refine H.out.mono ?_
  rintro e w1 ⟨rfl, hc⟩
  have H1 := Lib.hid hc
  clear hc
  go_wp2_with fail
  go_ret
  exact ⟨rfl, H1.out⟩
end Go.Proofs.Ytplpboknmhgpiaa
set_option linter.unusedVariables false
set_option linter.unusedSimpArgs false
set_option linter.unnecessarySimpa false
namespace Go.Proofs.Ytplpboknmhgpiaa
open Go.RowKit Go.MapKept Go.Shelf

theorem self_row {x : List (List Int)} (h : Cp.rightI x = true) {a : Nat} (ha : a < x.length) : (x.getD a []).contains (a : Int) = (Cp.row (Cp.toG x) a).contains a := by
  have h1 := Cp.toG_row ha
  have h2 : x.getD a [] = x[a] := by simp [ha]
  have h3 := (Cp.right_iff.1 h).2 x[a] (List.getElem_mem ha)
  rw [h2, h1]
  have : (a : Int) ∈ x[a] ↔ a ∈ x[a].map Int.toNat := by
    rw [List.mem_map]
    refine ⟨fun k => ⟨_, k, by simp⟩, fun ⟨z, hz, e⟩ => ?_⟩
    have := (h3.1 z hz).1
    rw [show (a : Int) = z by omega]; exact hz
  by_cases k : (a : Int) ∈ x[a]
  · rw [List.contains_iff_mem.2 k, List.contains_iff_mem.2 (this.1 k)]
  · have k2 : a ∉ x[a].map Int.toNat := fun m => k (this.2 m)
    rw [show x[a].contains (a : Int) = false by simpa using k, show (x[a].map Int.toNat).contains a = false by simpa using k2]

set_option maxRecDepth 100000 in
set_option maxHeartbeats 8000000 in
theorem ring_any (w : World) (ga : Option Addr) (n gc : Nat) (VG : List Is) (hn : n = VG.length) (hgc : n ≤ gc ∧ gc ≤ 9223372036854775807) (hx : IntRows w ga VG) (x : Int) (hxx : I64 x) :
    Calls Try.prog 17 #[.slice ga n gc, .int .i64 x] w fun e w' => e = .returned (.bool (Cp.ringI (VG.map (·.2.2)) x)) ∧ Chg [] w w' := by
  obtain ⟨X, hX⟩ : ∃ X, X = VG.map (·.2.2) := ⟨_, rfl⟩
  have hof := compOf_any w ga n gc VG hn hgc hx
  rw [← hX] at hof ⊢
  obtain ⟨R, hR⟩ : ∃ R, R = Cp.ringI X x := ⟨_, rfl⟩
  rw [← hR]
  have hnX : n = X.length := by rw [hn, hX, List.length_map]
  have H := Lib.hid (And.intro hof (And.intro hR (And.intro hnX (And.intro hn (And.intro hx hX)))))
  clear hn hx hX hof hR hnX
  go_enter Try.func17, Try.ntmps17
  go_wp2_with fail
  refine H.out.1.mono ?_
  rintro e w1 (⟨hr, rfl, hc⟩ | ⟨hr, sb, s, rfl, hc, hS⟩)
  · have H1 := Lib.hid (And.intro hr hc)
    clear hr hc
    go_wp2_with fail
    refine wp_region_quiet_below (by kernel_rfl) (by kernel_rfl) ?_
    (repeat (go_big_quiet_step (fail)))
    refine wpQuiet_nil ?_
    intro w6 hw6
    have hc6 := chg_of_rg hw6
    clear hw6
    go_wp2_with fail
    go_ret
    refine ⟨ret_bool (a := false) ?_, H1.out.2.tr hc6⟩
    rw [H.out.2.1]; unfold Cp.ringI; rw [H1.out.1]; rfl
  · obtain ⟨A, M, K, P, la, lc, VS, hS⟩ := hS
    obtain ⟨b2, hb2⟩ : ∃ b2, b2 = (decide (0 ≤ x) && decide (x < (n : Int))) := ⟨_, rfl⟩
    have cN := calls_rg (w := w1) (fun w1' h1 => number_any w1' ga n gc x (by omega))
    rw [← hb2] at cN
    have H1 := Lib.hid (And.intro hr (And.intro hc (And.intro hS hb2)))
    clear hr hc hS hb2
    cases b2 with
    | false =>
      go_wp2_with fail
      refine wp_region_quiet_below (by kernel_rfl) (by kernel_rfl) ?_
      (repeat (go_big_quiet_step (first | (with_reducible exact cN _ _))))
      refine wpQuiet_nil ?_
      intro w6 hw6
      have hc6 := chg_of_rg hw6
      clear hw6
      go_wp2_with fail
      go_ret
      refine ⟨ret_bool (a := false) ?_, H1.out.2.1.tr hc6⟩
      rw [H.out.2.1]; unfold Cp.ringI Cp.numI
      rw [← H.out.2.2.1, ← H1.out.2.2.2]; simp
    | true =>
      obtain ⟨a, ha, han⟩ : ∃ a : Nat, x = (a : Int) ∧ a < n := by
        have := H1.out.2.2.2
        simp at this
        exact ⟨x.toNat, by omega, by omega⟩
      subst ha
      have hS := H1.out.2.2.1
      have hG := Cp.right_RG H1.out.1
      have hnG : n = (Cp.toG X).length := by rw [Cp.toG_len]; exact H.out.2.2.1
      obtain ⟨gp, -, -, -, -, ep, p1, p2, xp, -, -, -⟩ := hS.putP han 0
      obtain ⟨x0, -, -, -, x4, x5, -⟩ := hS.cells
      rw [ep] at x4
      obtain ⟨pc, hpc⟩ : ∃ pc, pc = P.2.1 := ⟨_, rfl⟩
      rw [← hpc] at x4 p1 p2
      have hT := Cp.told hG
      obtain ⟨q1, q2⟩ := hT.place a (by omega)
      obtain ⟨p, hp⟩ : ∃ p : Nat, Cp.placeR (Cp.partsR (Cp.toG X)) a = (p : Int) := ⟨(Cp.placeR (Cp.partsR (Cp.toG X)) a).toNat, by omega⟩
      have hpV : p < VS.length := by have := hS.len; rw [this]; show p < (Cp.partsR (Cp.toG X)).length; omega
      have xp' : w1.cell? ⟨gp, a, none⟩ = some (.int .i64 (p : Nat)) := by rw [← hp]; exact xp
      obtain ⟨gl, rfl, -, hgc2⟩ := hS.own.at hpV
      have hrow := hS.part_row hpV
      obtain ⟨ra, rc, zs, hV⟩ : ∃ ra rc zs, VS[p] = (ra, rc, zs) := ⟨_, _, _, rfl⟩
      rw [hV] at hgc2 hrow
      dsimp only at hrow
      subst hrow
      rw [Is.cell] at hgc2
      dsimp only at hgc2
      rw [natI_len] at hgc2
      obtain ⟨rl, hrl⟩ : ∃ rl, rl = ((Cp.partsR (Cp.toG X)).getD p []).length := ⟨_, rfl⟩
      rw [← hrl] at hgc2
      obtain ⟨m, hm⟩ : ∃ m, m = VS.length := ⟨_, rfl⟩
      rw [← hm] at x5 hpV
      have hring : R = (decide (1 < rl) || (X.getD a []).contains (a : Int)) := by
        rw [H.out.2.1]; unfold Cp.ringI
        rw [H1.out.1, Cp.numI_nat (by rw [← H.out.2.2.1]; exact han)]
        unfold Cp.ringR
        rw [Int.toNat_natCast, hp, Int.toNat_natCast, hrl, self_row H1.out.1 (by rw [← H.out.2.2.1]; exact han)]; simp
      have cS := calls_rg (w := w1) (fun w1' h1 => self_any w1' ga n gc VG H.out.2.2.2.1 (by omega) (H.out.2.2.2.2.1.keep (H1.out.2.1.tr h1).kp) a han)
      rw [← H.out.2.2.2.2.2] at cS
      obtain ⟨sv, hsv⟩ : ∃ sv, sv = (X.getD a []).contains (a : Int) := ⟨_, rfl⟩
      rw [← hsv] at cS hring
      have k0 := cell_rg x0
      have k4 := cell_rg x4
      have k5 := cell_rg x5
      have kp := cell_rg xp'
      have kg := cell_rg hgc2
      have HR := Lib.hid hring
      clear hS hG hnG ep hpc hT q1 q2 hp xp xp' x0 x4 x5 hgc2 hV hrl hm hring hsv
      by_cases h1 : 1 < rl
      · have hd1 : decide ((1 : Int) < (rl : Int)) = true := decide_eq_true (by omega)
        have hd2 : decide (1 < rl) = true := decide_eq_true h1
        have HR1 := Lib.hid hd2
        go_wp2_with fail
        refine wp_region_quiet_below (by kernel_rfl) (by kernel_rfl) ?_
        (repeat (go_big_quiet_step (first | (with_reducible exact cN _ _) | (with_reducible exact cS _ _))))
        refine wpQuiet_nil ?_
        intro w6 hw6
        have hc6 := chg_of_rg hw6
        clear hw6
        go_wp2_with fail
        go_ret
        refine ⟨ret_bool (a := true) ?_, H1.out.2.1.tr hc6⟩
        rw [HR.out, HR1.out]; rfl
      · have hd1 : decide ((1 : Int) < (rl : Int)) = false := decide_eq_false (by omega)
        have hd2 : decide (1 < rl) = false := decide_eq_false h1
        have HR1 := Lib.hid hd2
        go_wp2_with fail
        refine wp_region_quiet_below (by kernel_rfl) (by kernel_rfl) ?_
        (repeat (go_big_quiet_step (first | (with_reducible exact cN _ _) | (with_reducible exact cS _ _))))
        refine wpQuiet_nil ?_
        intro w6 hw6
        have hc6 := chg_of_rg hw6
        clear hw6
        go_wp2_with fail
        go_ret
        refine ⟨ret_bool (a := sv) ?_, H1.out.2.1.tr hc6⟩
        rw [HR.out, HR1.out]; rfl
end Go.Proofs.Ytplpboknmhgpiaa

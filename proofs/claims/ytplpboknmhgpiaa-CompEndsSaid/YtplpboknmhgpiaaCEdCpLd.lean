/-
  CompLeads: for every graph and two numbers the law returns true.
  Conditions: the rows read as data.
-/
import Derived.Test.YtplpboknmhgpiaaCEdCpAw
import Derived.Test.YtplpboknmhgpiaaCEdCpOpen
import Derived.Test.YtplpboknmhgpiaaCEdPkN
set_option linter.unusedVariables false
set_option linter.unusedSimpArgs false
set_option linter.unnecessarySimpa false
namespace Go.Proofs.Ytplpboknmhgpiaa
open Go.RowKit Go.MapKept Go.Shelf

/-- Without numbers, or not right: nothing is told. -/
theorem comp_none {X : List (List Int)} (h : Cp.rightI X = false ∨ X.length = 0) (a b : Int) : Cp.leadsI X a b = false ∧ Cp.partI X a = -1 ∧ Cp.ringI X a = false := by
  rcases h with h | h
  · unfold Cp.leadsI Cp.partI Cp.ringI
    rw [h]; exact ⟨rfl, rfl, rfl⟩
  · have hn : ∀ z, Cp.numI X z = false := fun z => by unfold Cp.numI; rw [h]; simp
    unfold Cp.leadsI Cp.partI Cp.ringI
    rw [hn a]; simp
def ldF (X : List (List Int)) (i q : Int) (m : Nat) : Bool := (i == q) || ((X.getD i.toNat []).take m).any (fun y => Cp.leadsI X y q)
def bkF (X : List (List Int)) (i : Int) (m : Nat) : Bool := ((X.getD i.toNat []).take m).any (fun y => Cp.leadsI X y i)
theorem any_take_succ {l : List Int} {m : Nat} (h : m < l.length) (p : Int → Bool) : (l.take (m + 1)).any p = ((l.take m).any p || p l[m]) := by
  rw [List.take_succ_eq_append_getElem h, List.any_append]; simp
theorem row_int {X : List (List Int)} (h : Cp.rightI X = true) {i : Nat} (hi : i < X.length) (y : Int) : y ∈ X.getD i [] ↔ ∃ m : Nat, y = (m : Int) ∧ m ∈ Cp.row (Cp.toG X) i ∧ m < X.length := by
  have h1 := Cp.toG_row hi
  have h2 : X.getD i [] = X[i] := by simp [hi]
  have h3 := (Cp.right_iff.1 h).2 X[i] (List.getElem_mem hi)
  rw [h2, h1]
  refine ⟨fun hy => ?_, fun ⟨m, e, hm, _⟩ => ?_⟩
  · obtain ⟨k1, k2⟩ := h3.1 y hy
    exact ⟨y.toNat, by omega, List.mem_map.2 ⟨y, hy, rfl⟩, by omega⟩
  · obtain ⟨z, hz, e2⟩ := List.mem_map.1 hm
    have := (h3.1 z hz).1
    rw [show y = z by omega]; exact hz
theorem leads_step {X : List (List Int)} (h : Cp.rightI X = true) {i q : Nat} (hi : i < X.length) (hq : q < X.length) : Cp.leadsI X i q = ldF X i q (X.getD i []).length := by
  have key : Cp.leadsI X i q = true ↔ ldF X i q (X.getD i []).length = true := by
    rw [Cp.leads_iff h hi hq, Cp.reach_first]
    unfold ldF
    rw [Int.toNat_natCast, List.take_length, Bool.or_eq_true, List.any_eq_true]
    refine or_congr (by rw [beq_iff_eq]; omega) ⟨fun ⟨m, hm, hr⟩ => ?_, fun ⟨y, hy, hr⟩ => ?_⟩
    · have hml : m < X.length := by have := (Cp.right_RG h).lt i m hm; rwa [Cp.toG_len] at this
      exact ⟨(m : Int), (row_int h hi _).2 ⟨m, rfl, hm, hml⟩, (Cp.leads_iff h hml hq).2 hr⟩
    · obtain ⟨m, rfl, hm, hml⟩ := (row_int h hi y).1 hy
      exact ⟨m, hm, (Cp.leads_iff h hml hq).1 hr⟩
  cases h1 : Cp.leadsI X i q with
  | true => exact (key.1 h1).symm
  | false =>
    cases h2 : ldF X i q (X.getD i []).length with
    | false => rfl
    | true => have := key.2 h2; rw [h1] at this; cases this
theorem ring_step {X : List (List Int)} (h : Cp.rightI X = true) {i : Nat} (hi : i < X.length) : Cp.ringI X i = bkF X i (X.getD i []).length := by
  have key : Cp.ringI X i = true ↔ bkF X i (X.getD i []).length = true := by
    rw [Cp.ringI_nat h hi]
    unfold bkF
    rw [Int.toNat_natCast, List.take_length, List.any_eq_true]
    refine ⟨fun ⟨m, hm, hr⟩ => ?_, fun ⟨y, hy, hr⟩ => ?_⟩
    · have hml : m < X.length := by have := (Cp.right_RG h).lt i m hm; rwa [Cp.toG_len] at this
      exact ⟨(m : Int), (row_int h hi _).2 ⟨m, rfl, hm, hml⟩, (Cp.leads_iff h hml hi).2 hr⟩
    · obtain ⟨m, rfl, hm, hml⟩ := (row_int h hi y).1 hy
      exact ⟨m, hm, (Cp.leads_iff h hml hi).1 hr⟩
  cases h1 : Cp.ringI X i with
  | true => exact (key.1 h1).symm
  | false =>
    cases h2 : bkF X i (X.getD i []).length with
    | false => rfl
    | true => have := key.2 h2; rw [h1] at this; cases this
theorem leads_self {X : List (List Int)} (h : Cp.rightI X = true) {i : Nat} (hi : i < X.length) : Cp.leadsI X i i = true := (Cp.leads_iff h hi hi).2 (.refl _)
theorem pick_nat (z : Int) {n : Nat} (h : 0 < n) : ∃ i : Nat, (if n = 0 then (0 : Int) else z % (n : Int)) = (i : Int) ∧ i < n := by
  rw [if_neg (by omega)]
  have h1 := Int.emod_nonneg z (show (n : Int) ≠ 0 by omega)
  have h2 := Int.emod_lt_of_pos z (show (0 : Int) < n by omega)
  exact ⟨(z % (n : Int)).toNat, by omega, by omega⟩

set_option maxRecDepth 100000 in
set_option maxHeartbeats 16000000 in
theorem compLeads_any (w : World) (a : Option Addr) (n c : Nat) (VS : List Is) (hn : n = VS.length) (hc : n ≤ c) (hm : c ≤ 9223372036854775807) (hd : IntRows w a VS) (hw : ∀ p ∈ VS, ∀ z ∈ p.2.2, I64 z) (hb : n ≤ 17592186044416) (ht : ∀ p ∈ VS, p.2.2.length ≤ 17592186044416) (z1 z2 : Int) (i1 : I64 z1) (i2 : I64 z2) :
    Calls Try.prog 4 #[.slice a n c, .int .i64 z1, .int .i64 z2] w fun e w' => e = .returned (.bool true) ∧ Chg [] w w' := by
  obtain ⟨X, hX⟩ : ∃ X, X = VS.map (·.2.2) := ⟨_, rfl⟩
  have hnX : n = X.length := by rw [hn, hX, List.length_map]
  have H := Lib.hid (And.intro hn (And.intro hd (And.intro hw (And.intro ht (And.intro hX hnX)))))
  clear hn hd hw ht hX hnX
  go_enter Try.func4, Try.ntmps4
  go_wp2_with fail
  refine (awake13_any w).mono ?_
  rintro e w1 ⟨rfl, hc1⟩
  have H1 := Lib.hid hc1
  clear hc1
  go_wp2_with fail
  refine (great_any w1 a n c VS H.out.1 hb H.out.2.2.2.1 (H.out.2.1.keep H1.out.kp)).mono ?_
  rintro e w2 ⟨rfl, hc2⟩
  rw [← H.out.2.2.2.2.1]
  obtain ⟨g, hg⟩ : ∃ g, g = greatI X := ⟨_, rfl⟩
  rw [← hg]
  have H2 := Lib.hid (And.intro hg (H1.out.tr hc2))
  clear hg hc2
  cases g with
  | true =>
    go_wp2_with fail
    go_ret
    exact ⟨rfl, H2.out.2⟩
  | false =>
    have hn600 : n ≤ 600 := by have := (great_small H2.out.1.symm).1; have := H.out.2.2.2.2.2; omega
    go_wp2_with fail
    refine (rightC_any w2 a n c VS H.out.1 (by omega) (H.out.2.1.keep H2.out.2.kp)).mono ?_
    rintro e w3 ⟨rfl, hc3⟩
    rw [← H.out.2.2.2.2.1]
    obtain ⟨r, hr⟩ : ∃ r, r = Cp.rightI X := ⟨_, rfl⟩
    rw [← hr]
    have H3 := Lib.hid (And.intro hr (H2.out.2.tr hc3))
    clear hr hc3
    by_cases hno : r = false ∨ n = 0
    · have hcn : ∀ a b, Cp.leadsI X a b = false ∧ Cp.partI X a = -1 ∧ Cp.ringI X a = false := fun a b => comp_none (by rw [← H3.out.1, ← H.out.2.2.2.2.2]; exact hno) a b
      have HN := Lib.hid hcn
      clear hcn
      have fin : ∀ (T : Array Value), True := fun _ => trivial
      have hgo : r = false ∨ (r = true ∧ n = 0) := by
        rcases hno with h | h
        · exact .inl h
        · cases r with
          | false => exact .inl rfl
          | true => exact .inr ⟨rfl, h⟩
      clear hno fin
      rcases hgo with rfl | ⟨rfl, rfl⟩
      · go_wp2_with fail
        refine (leadsC_any w3 a _ c VS H.out.1 (by omega) (H.out.2.1.keep H3.out.2.kp) z1 z2 i2 i1).mono ?_
        rintro e w4 ⟨rfl, hc4⟩
        rw [← H.out.2.2.2.2.1, (HN.out z1 z2).1]
        have H4 := Lib.hid (H3.out.2.tr hc4)
        clear hc4
        go_wp2_with fail
        refine (part_any w4 a _ c VS H.out.1 (by omega) (H.out.2.1.keep H4.out.kp) z1 i1).mono ?_
        rintro e w5 ⟨rfl, hc5⟩
        rw [← H.out.2.2.2.2.1, (HN.out z1 z2).2.1]
        have H5 := Lib.hid (H4.out.tr hc5)
        clear hc5
        go_wp2_with fail
        refine (ring_any w5 a _ c VS H.out.1 (by omega) (H.out.2.1.keep H5.out.kp) z1 i1).mono ?_
        rintro e w6 ⟨rfl, hc6⟩
        rw [← H.out.2.2.2.2.1, (HN.out z1 z2).2.2]
        have H6 := Lib.hid (H5.out.tr hc6)
        clear hc6
        go_wp2_with fail
        go_ret
        exact ⟨rfl, H6.out⟩
      · go_wp2_with fail
        refine (leadsC_any w3 a _ c VS H.out.1 (by omega) (H.out.2.1.keep H3.out.2.kp) z1 z2 i2 i1).mono ?_
        rintro e w4 ⟨rfl, hc4⟩
        rw [← H.out.2.2.2.2.1, (HN.out z1 z2).1]
        have H4 := Lib.hid (H3.out.2.tr hc4)
        clear hc4
        go_wp2_with fail
        refine (part_any w4 a _ c VS H.out.1 (by omega) (H.out.2.1.keep H4.out.kp) z1 i1).mono ?_
        rintro e w5 ⟨rfl, hc5⟩
        rw [← H.out.2.2.2.2.1, (HN.out z1 z2).2.1]
        have H5 := Lib.hid (H4.out.tr hc5)
        clear hc5
        go_wp2_with fail
        refine (ring_any w5 a _ c VS H.out.1 (by omega) (H.out.2.1.keep H5.out.kp) z1 i1).mono ?_
        rintro e w6 ⟨rfl, hc6⟩
        rw [← H.out.2.2.2.2.1, (HN.out z1 z2).2.2]
        have H6 := Lib.hid (H5.out.tr hc6)
        clear hc6
        go_wp2_with fail
        go_ret
        exact ⟨rfl, H6.out⟩
    · obtain ⟨rfl, hn0⟩ : r = true ∧ 0 < n := by
        cases r with
        | false => exact absurd (.inl rfl) hno
        | true => exact ⟨rfl, by omega⟩
      clear hno
      have hnn : ((n : Int) == 0) = false := by simp; omega
      go_wp2_with fail
      refine (pickKn_any z1 n w3 (by omega) i1).mono ?_
      rintro e w4 ⟨rfl, hc4⟩
      obtain ⟨i, ei, hi⟩ := pick_nat z1 hn0
      rw [ei]
      have H4 := Lib.hid (H3.out.2.tr hc4)
      clear hc4 ei
      go_wp2_with fail
      refine (pickKn_any z2 n w4 (by omega) i2).mono ?_
      rintro e w5 ⟨rfl, hc5⟩
      obtain ⟨q, eq, hq⟩ := pick_nat z2 hn0
      rw [eq]
      have H5 := Lib.hid (H4.out.tr hc5)
      clear hc5 eq
      obtain ⟨b, o, rfl, hcl, hz, hl⟩ := H.out.2.1 i (by have := H.out.1; omega)
      obtain ⟨ra, rc, zs, hVi⟩ : ∃ ra rc zs, VS[i]'(by have := H.out.1; omega) = (ra, rc, zs) := ⟨_, _, _, rfl⟩
      have hzs : X.getD i [] = zs := by
        rw [H.out.2.2.2.2.1, List.getD, List.getElem?_map, List.getElem?_eq_getElem (by have := H.out.1; omega), hVi]; rfl
      have hzi : ∀ z ∈ zs, I64 z := by
        have := H.out.2.2.1 (VS[i]'(by have := H.out.1; omega)) (List.getElem_mem _)
        rw [hVi] at this
        exact this
      rw [hVi] at hcl hz hl
      dsimp only at hz hl
      rw [Is.cell] at hcl
      dsimp only at hcl
      obtain ⟨m, hm2⟩ : ∃ m, m = zs.length := ⟨_, rfl⟩
      rw [← hm2] at hcl hl
      have HZ := Lib.hid (And.intro hz (And.intro hm2 (And.intro hcl (And.intro hzs hzi))))
      clear hz hm2 hcl hzs hzi hVi
      obtain ⟨b0, hb0⟩ : ∃ b0, b0 = ((i : Int) == (q : Int)) := ⟨_, rfl⟩
      have HB0 := Lib.hid hb0
      go_wp2_with fail
      rw [← hb0]
      clear hb0
      go_loopg [11, 9, 10] m (fun d kv lv bv wr => ∃ k : Nat, d = m - k ∧ k ≤ m ∧ kv = .int .i64 k ∧ lv = .bool (ldF X i q k) ∧ bv = .bool (bkF X i k) ∧ Hid (Chg [] w wr))
      case atStart => exact ⟨0, rfl, Nat.zero_le _, rfl, by unfold ldF; rw [HB0.out]; simp, by unfold bkF; simp, H5⟩
      case round =>
        obtain ⟨k, rfl, hk, rfl, rfl, rfl, hin⟩ := hrel
        obtain ⟨wq, rfl⟩ : ∃ wz, wz = wr := ⟨_, rfl⟩
        have hcl := hin.out.cell HZ.out.2.2.1 (by simp)
        obtain ⟨b1, hb1⟩ : ∃ b1, b1 = ldF X i q k := ⟨_, rfl⟩
        obtain ⟨b2, hb2⟩ : ∃ b2, b2 = bkF X i k := ⟨_, rfl⟩
        rw [← hb1, ← hb2]
        have HBB := Lib.hid (And.intro hb1 hb2)
        clear hb1 hb2
        by_cases hlt : k < m
        · have hkl : k < zs.length := by have := HZ.out.2.1; omega
          obtain ⟨bz, oz, rfl, hcz⟩ := (HZ.out.1.keep hin.out.kp) k hkl
          obtain ⟨y, hy⟩ : ∃ y, y = zs[k] := ⟨_, rfl⟩
          rw [← hy] at hcz
          have hyi : I64 y := by rw [hy]; exact HZ.out.2.2.2.2 _ (List.getElem_mem hkl)
          have hs1 : ldF X i q (k + 1) = (ldF X i q k || Cp.leadsI X y q) := by
            unfold ldF
            rw [Int.toNat_natCast, HZ.out.2.2.2.1, any_take_succ hkl, ← hy, Bool.or_assoc]
          have hs2 : bkF X i (k + 1) = (bkF X i k || Cp.leadsI X y i) := by
            unfold bkF
            rw [Int.toNat_natCast, HZ.out.2.2.2.1, any_take_succ hkl, ← hy]
          have HY := Lib.hid (And.intro hs1 (And.intro hs2 hyi))
          have hyz : zs[k] = y := hy.symm
          clear hs1 hs2 hy hyi
          have HY2 := Lib.hid hyz
          clear hyz
          cases b1 with
          | true =>
            cases b2 with
            | true =>
              go_wp2_with fail
              go_roundg (m - (k + 1))
              case measure => omega
              case rel => exact ⟨k + 1, rfl, by omega, by go_num, by rw [HY.out.1, ← HBB.out.1]; rfl, by rw [HY.out.2.1, ← HBB.out.2]; rfl, Lib.hid (hin.out)⟩
            | false =>
              go_wp2_with fail
              refine (leadsC_any wq (some ⟨b, o, none⟩) n c VS H.out.1 (by omega) (H.out.2.1.keep (hin.out).kp) y i (by unfold I64; omega) HY.out.2.2).mono ?_
              rintro e w7 ⟨rfl, hc7⟩
              rw [← H.out.2.2.2.2.1]
              obtain ⟨l2, hl2⟩ : ∃ l2, l2 = Cp.leadsI X y i := ⟨_, rfl⟩
              rw [← hl2]
              have H7 := Lib.hid (And.intro hl2 ((hin.out).tr hc7))
              clear hl2 hc7
              go_wp2_with fail
              go_roundg (m - (k + 1))
              case measure => omega
              case rel => exact ⟨k + 1, rfl, by omega, by go_num, by rw [HY.out.1, ← HBB.out.1]; rfl, by rw [HY.out.2.1, ← HBB.out.2, ← H7.out.1]; rfl, Lib.hid (H7.out.2)⟩
          | false =>
            cases b2 with
            | true =>
              go_wp2_with fail
              refine (leadsC_any wq (some ⟨b, o, none⟩) n c VS H.out.1 (by omega) (H.out.2.1.keep hin.out.kp) y q (by unfold I64; omega) HY.out.2.2).mono ?_
              rintro e w6 ⟨rfl, hc6⟩
              rw [← H.out.2.2.2.2.1]
              obtain ⟨l1, hl1⟩ : ∃ l1, l1 = Cp.leadsI X y q := ⟨_, rfl⟩
              rw [← hl1]
              have H6 := Lib.hid (And.intro hl1 (hin.out.tr hc6))
              clear hl1 hc6
              have hcl := H6.out.2.cell HZ.out.2.2.1 (by simp)
              obtain ⟨bz', oz', ez, hcz'⟩ := (HZ.out.1.keep H6.out.2.kp) k (by have := HZ.out.2.1; omega)
              obtain ⟨rfl, rfl⟩ : bz = bz' ∧ oz = oz' := by simpa using ez
              rw [HY2.out] at hcz'
              clear ez
              go_wp2_with fail
              go_roundg (m - (k + 1))
              case measure => omega
              case rel => exact ⟨k + 1, rfl, by omega, by go_num, by rw [HY.out.1, ← HBB.out.1, ← H6.out.1]; rfl, by rw [HY.out.2.1, ← HBB.out.2]; rfl, Lib.hid (H6.out.2)⟩
            | false =>
              go_wp2_with fail
              refine (leadsC_any wq (some ⟨b, o, none⟩) n c VS H.out.1 (by omega) (H.out.2.1.keep hin.out.kp) y q (by unfold I64; omega) HY.out.2.2).mono ?_
              rintro e w6 ⟨rfl, hc6⟩
              rw [← H.out.2.2.2.2.1]
              obtain ⟨l1, hl1⟩ : ∃ l1, l1 = Cp.leadsI X y q := ⟨_, rfl⟩
              rw [← hl1]
              have H6 := Lib.hid (And.intro hl1 (hin.out.tr hc6))
              clear hl1 hc6
              have hcl := H6.out.2.cell HZ.out.2.2.1 (by simp)
              obtain ⟨bz', oz', ez, hcz'⟩ := (HZ.out.1.keep H6.out.2.kp) k (by have := HZ.out.2.1; omega)
              obtain ⟨rfl, rfl⟩ : bz = bz' ∧ oz = oz' := by simpa using ez
              rw [HY2.out] at hcz'
              clear ez
              go_wp2_with fail
              refine (leadsC_any w6 (some ⟨b, o, none⟩) n c VS H.out.1 (by omega) (H.out.2.1.keep (H6.out.2).kp) y i (by unfold I64; omega) HY.out.2.2).mono ?_
              rintro e w7 ⟨rfl, hc7⟩
              rw [← H.out.2.2.2.2.1]
              obtain ⟨l2, hl2⟩ : ∃ l2, l2 = Cp.leadsI X y i := ⟨_, rfl⟩
              rw [← hl2]
              have H7 := Lib.hid (And.intro hl2 ((H6.out.2).tr hc7))
              clear hl2 hc7
              go_wp2_with fail
              go_roundg (m - (k + 1))
              case measure => omega
              case rel => exact ⟨k + 1, rfl, by omega, by go_num, by rw [HY.out.1, ← HBB.out.1, ← H6.out.1]; rfl, by rw [HY.out.2.1, ← HBB.out.2, ← H7.out.1]; rfl, Lib.hid (H7.out.2)⟩
        · obtain rfl : m = k := by omega
          have hr3 := H3.out.1.symm
          have hs1 := leads_step hr3 (i := i) (q := q) (by have := H.out.2.2.2.2.2; omega) (by have := H.out.2.2.2.2.2; omega)
          have hs2 := ring_step hr3 (i := i) (by have := H.out.2.2.2.2.2; omega)
          have hs3 := leads_self hr3 (i := i) (by have := H.out.2.2.2.2.2; omega)
          rw [HZ.out.2.2.2.1, ← HZ.out.2.1, ← HBB.out.1] at hs1
          rw [HZ.out.2.2.2.1, ← HZ.out.2.1, ← HBB.out.2] at hs2
          have HS := Lib.hid (And.intro hs1 (And.intro hs2 hs3))
          clear hs1 hs2 hs3 hr3
          go_wp2_with fail
          refine (leadsC_any wq (some ⟨b, o, none⟩) n c VS H.out.1 (by omega) (H.out.2.1.keep hin.out.kp) i q (by unfold I64; omega) (by unfold I64; omega)).mono ?_
          rintro e w6 ⟨rfl, hc6⟩
          rw [← H.out.2.2.2.2.1, HS.out.1]
          have H6 := Lib.hid (hin.out.tr hc6)
          clear hc6
          have hbb : (b1 == b1) = true := by simp
          go_wp2_with fail
          refine (leadsC_any w6 (some ⟨b, o, none⟩) n c VS H.out.1 (by omega) (H.out.2.1.keep H6.out.kp) i i (by unfold I64; omega) (by unfold I64; omega)).mono ?_
          rintro e w7 ⟨rfl, hc7⟩
          rw [← H.out.2.2.2.2.1, HS.out.2.2]
          have H7 := Lib.hid (H6.out.tr hc7)
          clear hc7
          go_wp2_with fail
          refine (ring_any w7 (some ⟨b, o, none⟩) n c VS H.out.1 (by omega) (H.out.2.1.keep H7.out.kp) i (by unfold I64; omega)).mono ?_
          rintro e w8 ⟨rfl, hc8⟩
          rw [← H.out.2.2.2.2.1, HS.out.2.1]
          have H8 := Lib.hid (H7.out.tr hc8)
          clear hc8
          have hbb2 : (b2 == b2) = true := by simp
          go_wp2_with fail
          go_ret
          exact ⟨ret_bool (by simp), H8.out⟩
end Go.Proofs.Ytplpboknmhgpiaa

/-
  slices.EqualFunc of two lists of nodes, by sameNode.
  Conditions: both read as data.
-/
import Derived.Test.YtibgfgfmljhimaaGEq3
set_option linter.unusedVariables false
set_option linter.unusedSimpArgs false
namespace Go.Proofs.Ytibgfgfmljhimaa
open Go.RowKit Go.MapKept Go.Shelf

set_option maxRecDepth 100000 in
set_option maxHeartbeats 4000000 in
theorem equalNodes_any (w : World) (a b : Option Addr) (n c m d' : Nat) (xs ys : List Nd) (hn : n = xs.length) (hm : m = ys.length) (hs : n ≤ 9223372036854775807) (hx : Nodes w a xs) (hy : Nodes w b ys) :
    Calls Try.prog 140 #[.slice a n c, .slice b m d', .func (.func 98) #[] #[]] w fun e w' => e = .returned (.bool (sameNs xs ys)) ∧ Chg [] w w' := by
  obtain ⟨R, hR⟩ : ∃ R, R = sameNs xs ys := ⟨_, rfl⟩
  rw [← hR]
  have H := Lib.hid (And.intro hn (And.intro hm (And.intro hx (And.intro hy hR))))
  clear hn hm hx hy hR
  by_cases hnm : n = m
  · subst hnm
    go_enter Try.func140, Try.ntmps140
    go_wp2_with fail
    go_loopg [17] n (fun d iv wr => ∃ k : Nat, d = n - k ∧ k ≤ n ∧ iv = .int .i64 k ∧ Hid (Chg [] w wr ∧ ∀ i (h1 : i < xs.length) (h2 : i < ys.length), i < k → sameN xs[i] ys[i] = true))
    case atStart => exact ⟨0, rfl, Nat.zero_le _, rfl, Lib.hid ⟨Chg.refl _ _, fun i _ _ hi => by omega⟩⟩
    case round =>
      obtain ⟨k, rfl, hk, rfl, hin⟩ := hrel
      obtain ⟨wq, rfl⟩ : ∃ wq, wq = wr := ⟨_, rfl⟩
      by_cases hlt : k < n
      · have hkx : k < xs.length := by have := H.out.1; omega
        have hky : k < ys.length := by have := H.out.2.1; omega
        obtain ⟨bx, ox, ak, nk, ck, rfl, hx⟩ := H.out.2.2.1.keep hin.out.1.kp k hkx
        obtain ⟨bb, oy, bk, mk, dk, rfl, hy⟩ := H.out.2.2.2.1.keep hin.out.1.kp k hky
        obtain ⟨zx, hzx⟩ : ∃ z, z = xs[k] := ⟨_, rfl⟩
        obtain ⟨zy, hzy⟩ : ∃ z, z = ys[k] := ⟨_, rfl⟩
        rw [← hzx] at hx
        rw [← hzy] at hy
        have hbx := World.block_lt_of_cell? _ _ hx.k
        have hby := World.block_lt_of_cell? _ _ hy.k
        simp only at hbx hby
        obtain ⟨u0, u1, u2, u3, u4, u5, u6, u7, u8, p1, p2, p3, p4⟩ := hx
        obtain ⟨v0, v1, v2, v3, v4, v5, v6, v7, v8, q1, q2, q3, q4⟩ := hy
        obtain ⟨S, hS⟩ : ∃ S, S = sameN zx zy := ⟨_, rfl⟩
        have cA := fun (w1 : World) (h1 : Chg [] wq w1) => sameNode_any w1 zx zy ak bk nk ck mk dk p1 q1 (by unfold maxLen at p3; omega) (p4.keep h1.kp) (q4.keep h1.kp)
        rw [← hS] at cA
        unfold Nd.cells at cA
        have HZ := Lib.hid (And.intro hzx (And.intro hzy (And.intro hS cA)))
        clear hzx hzy hS p1 p2 p3 p4 q1 q2 q3 q4 cA
        go_wp2_with fail
        refine (HZ.out.2.2.2 _ (((Chg.refl _ _).alloc _).alloc _)).mono ?_
        rintro e w4 ⟨rfl, hc⟩
        have H4 := Lib.hid (hin.out.1.tr ((((Chg.refl [] wq).alloc _).alloc _).tr hc))
        clear hc u0 u1 u2 u3 u4 u5 u6 u7 u8 v0 v1 v2 v3 v4 v5 v6 v7 v8
        cases S
        · go_wp2_with fail
          go_ret
          refine ⟨ret_bool ?_, H4.out⟩
          rw [H.out.2.2.2.2]
          symm
          rw [← Bool.not_eq_true, sameNs_iff]
          rintro ⟨_, k2⟩
          have := k2 k hkx hky
          rw [← HZ.out.1, ← HZ.out.2.1, ← HZ.out.2.2.1] at this
          cases this
        · go_wp2_with fail
          go_roundg (n - (k + 1))
          case measure => omega
          case rel =>
            refine ⟨k + 1, rfl, by omega, by go_num, Lib.hid ⟨H4.out, fun i h1 h2 hi => ?_⟩⟩
            by_cases e : i = k
            · subst e
              rw [← HZ.out.1, ← HZ.out.2.1, ← HZ.out.2.2.1]
            · exact hin.out.2 i h1 h2 (by omega)
      · obtain rfl : k = n := by omega
        go_wp2
        go_ret
        refine ⟨ret_bool ?_, hin.out.1⟩
        rw [H.out.2.2.2.2]
        symm
        rw [sameNs_iff]
        have h1 := H.out.1
        have h2 := H.out.2.1
        exact ⟨by omega, fun i i1 i2 => hin.out.2 i i1 i2 (by omega)⟩
  · have hb : (((n : Int)) != ((m : Int))) = true := by simp; omega
    have hnm' : ¬ ((n : Int) = (m : Int)) := by omega
    go_enter Try.func140, Try.ntmps140
    go_wp2_with fail
    go_ret
    refine ⟨ret_bool ?_, Chg.refl _ _⟩
    rw [H.out.2.2.2.2]
    symm
    rw [← Bool.not_eq_true, sameNs_iff]
    rintro ⟨hl, _⟩
    have h1 := H.out.1
    have h2 := H.out.2.1
    omega
end Go.Proofs.Ytibgfgfmljhimaa

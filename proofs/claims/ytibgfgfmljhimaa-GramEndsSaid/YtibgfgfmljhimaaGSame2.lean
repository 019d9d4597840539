/-
  The reference's Same: two grammars.
  Conditions: both read as data.
-/
import Derived.Test.YtibgfgfmljhimaaGSame
set_option linter.unusedVariables false
set_option linter.unusedSimpArgs false
namespace Go.Proofs.Ytibgfgfmljhimaa
open Go.RowKit Go.MapKept Go.Shelf

def sameR (r q : Rl) : Bool := decide (r.name.toList = q.name.toList ∧ r.body = q.body)
def sameRs : List Rl → List Rl → Bool
  | [], [] => true
  | r :: rs, q :: qs => sameR r q && sameRs rs qs
  | _, _ => false
def sameNs : List Nd → List Nd → Bool
  | [], [] => true
  | x :: xs, y :: ys => sameN x y && sameNs xs ys
  | _, _ => false
def sameG (g h : Gr) : Bool := sameRs g.rules h.rules && sameNs g.nodes h.nodes
theorem sameRs_refl (l : List Rl) : sameRs l l = true := by
  induction l with
  | nil => rfl
  | cons r rs ih => simp [sameRs, sameR, ih]
theorem sameNs_refl (l : List Nd) : sameNs l l = true := by
  induction l with
  | nil => rfl
  | cons r rs ih => simp [sameNs, sameN_refl, ih]
theorem sameG_refl (g : Gr) : sameG g g = true := by simp [sameG, sameRs_refl, sameNs_refl]
theorem sameRs_iff (l m : List Rl) : sameRs l m = true ↔ l.length = m.length ∧ ∀ i (h : i < l.length) (h' : i < m.length), sameR l[i] m[i] = true := by
  induction l generalizing m with
  | nil => cases m with
    | nil => simp [sameRs]
    | cons _ _ => simp [sameRs]
  | cons r rs ih => cases m with
    | nil => simp [sameRs]
    | cons q qs =>
      simp only [sameRs, Bool.and_eq_true, ih, List.length_cons, Nat.add_right_cancel_iff]
      constructor
      · rintro ⟨h1, h2, h3⟩
        refine ⟨h2, fun i hi hi' => ?_⟩
        cases i with
        | zero => exact h1
        | succ i => exact h3 i (by omega) (by omega)
      · rintro ⟨h1, h2⟩
        exact ⟨h2 0 (by omega) (by omega), h1, fun i hi hi' => h2 (i + 1) (by omega) (by omega)⟩
theorem sameNs_iff (l m : List Nd) : sameNs l m = true ↔ l.length = m.length ∧ ∀ i (h : i < l.length) (h' : i < m.length), sameN l[i] m[i] = true := by
  induction l generalizing m with
  | nil => cases m with
    | nil => simp [sameNs]
    | cons _ _ => simp [sameNs]
  | cons r rs ih => cases m with
    | nil => simp [sameNs]
    | cons q qs =>
      simp only [sameNs, Bool.and_eq_true, ih, List.length_cons, Nat.add_right_cancel_iff]
      constructor
      · rintro ⟨h1, h2, h3⟩
        refine ⟨h2, fun i hi hi' => ?_⟩
        cases i with
        | zero => exact h1
        | succ i => exact h3 i (by omega) (by omega)
      · rintro ⟨h1, h2⟩
        exact ⟨h2 0 (by omega) (by omega), h1, fun i hi hi' => h2 (i + 1) (by omega) (by omega)⟩
theorem sameG_iff (g h : Gr) : sameG g h = true ↔ (g.rules.length = h.rules.length ∧ ∀ i (h1 : i < g.rules.length) (h2 : i < h.rules.length), sameR g.rules[i] h.rules[i] = true) ∧ (g.nodes.length = h.nodes.length ∧ ∀ i (h1 : i < g.nodes.length) (h2 : i < h.nodes.length), sameN g.nodes[i] h.nodes[i] = true) := by
  rw [sameG, Bool.and_eq_true, sameRs_iff, sameNs_iff]

set_option maxRecDepth 100000 in
set_option maxHeartbeats 4000000 in
theorem Same_any (w : World) (a1 : Option Addr) (n1 c1 : Nat) (a2 : Option Addr) (n2 c2 : Nat) (g : Gr) (b1 : Option Addr) (m1 d1 : Nat) (b2 : Option Addr) (m2 d2 : Nat) (h : Gr) (hg : GramAt w a1 n1 c1 a2 n2 c2 g) (hh : GramAt w b1 m1 d1 b2 m2 d2 h) :
    Calls Try.prog 31 #[.agg #[.slice a1 n1 c1, .slice a2 n2 c2], .agg #[.slice b1 m1 d1, .slice b2 m2 d2]] w fun e w' => e = .returned (.bool (sameG g h)) ∧ Chg [] w w' := by
  obtain ⟨R, hR⟩ : ∃ R, R = sameG g h := ⟨_, rfl⟩
  rw [← hR]
  obtain ⟨s1, s2⟩ := hg.small
  obtain ⟨s3, s4⟩ := hh.small
  have H := Lib.hid (And.intro hg (And.intro hh hR))
  clear hg hh hR
  go_enter Try.func31, Try.ntmps31
  go_wp2_with fail
  all_goals try (go_ret; refine ⟨ret_bool ?_, ((Chg.refl _ _).alloc _).alloc _⟩; rename_i hz; rw [H.out.2.2]; symm; rw [← Bool.not_eq_true, sameG_iff]; rintro ⟨⟨k1, _⟩, ⟨k2, _⟩⟩; have e1 := H.out.1.e1; have e2 := H.out.2.1.e1; have e3 := H.out.1.e2; have e4 := H.out.2.1.e2; first | (have : n1 = m1 := by omega); (have : n2 = m2 := by omega); simp_all; done)
  rename_i i1 i2 _ _
  obtain rfl : n1 = m1 := by omega
  obtain rfl : n2 = m2 := by simp at i2; omega
  clear i1 i2
  go_loopg [5] n1 (fun d iv wr => ∃ k : Nat, d = n1 - k ∧ k ≤ n1 ∧ iv = .int .i64 k ∧ Hid (SameAt w w.heap.size #[.slice a1 n1 c1, .slice a2 n2 c2] #[.slice b1 n1 d1, .slice b2 n2 d2] 25 wr ∧ ∀ i (h1 : i < g.rules.length) (h2 : i < h.rules.length), i < k → sameR g.rules[i] h.rules[i] = true))
  case atStart => exact ⟨0, rfl, Nat.zero_le _, rfl, Lib.hid ⟨SameAt.new _ _ _ _, fun i _ _ hi => by omega⟩⟩
  case round =>
    obtain ⟨k, rfl, hk, rfl, hin⟩ := hrel
    obtain ⟨wq, rfl⟩ : ∃ wq, wq = wr := ⟨_, rfl⟩
    obtain ⟨x0, x1⟩ := cells2 hin.out.1.bx
    obtain ⟨y0, y1⟩ := cells2 hin.out.1.bY
    by_cases hlt : k < n1
    · have hkx : k < g.rules.length := by have := H.out.1.e1; omega
      have hky : k < h.rules.length := by have := H.out.2.1.e1; omega
      obtain ⟨bx, ox, rfl, hx, hx'⟩ := H.out.1.rules k hkx
      obtain ⟨bb, oy, rfl, hy, hy'⟩ := H.out.2.1.rules k hky
      have hx := hin.out.1.ch.kp.2 _ _ hx
      have hy := hin.out.1.ch.kp.2 _ _ hy
      have hx' := hin.out.1.ch.kp.2 _ _ hx'
      have hy' := hin.out.1.ch.kp.2 _ _ hy'
      obtain ⟨zx, hzx⟩ : ∃ z, z = g.rules[k] := ⟨_, rfl⟩
      obtain ⟨zy, hzy⟩ : ∃ z, z = h.rules[k] := ⟨_, rfl⟩
      rw [← hzx] at hx hx'
      rw [← hzy] at hy hy'
      have HZ := Lib.hid (And.intro hzx hzy)
      clear hzx hzy
      by_cases hb1 : zx.name.toList = zy.name.toList
      · by_cases hb2 : zx.body = zy.body
        · have HB := Lib.hid (And.intro hb1 hb2)
          go_wp2_with fail
          go_quiet (fail)
          go_wp2_with fail
          go_roundg (n1 - (k + 1))
          case measure => omega
          case rel =>
            refine ⟨k + 1, rfl, by omega, by go_num, Lib.hid ⟨hin.out.1.keep ((Chg.refl _ _).drewN _), fun i h1 h2 hi => ?_⟩⟩
            by_cases e : i = k
            · subst e
              rw [← HZ.out.1, ← HZ.out.2, sameR, decide_eq_true_eq]
              exact HB.out
            · exact hin.out.2 i h1 h2 (by omega)
        · go_wp2_with fail
          go_quiet (fail)
          go_wp2_with fail
          go_ret
          refine ⟨ret_bool ?_, hin.out.1.ch.drewN _⟩
          rw [H.out.2.2]
          symm
          rw [← Bool.not_eq_true, sameG_iff]
          rintro ⟨⟨_, k2⟩, _⟩
          have := k2 k hkx hky
          rw [← HZ.out.1, ← HZ.out.2, sameR, decide_eq_true_eq] at this
          exact hb2 this.2
      · go_wp2_with fail
        go_quiet (fail)
        go_wp2_with fail
        go_ret
        refine ⟨ret_bool ?_, hin.out.1.ch.drewN _⟩
        rw [H.out.2.2]
        symm
        rw [← Bool.not_eq_true, sameG_iff]
        rintro ⟨⟨_, k2⟩, _⟩
        have := k2 k hkx hky
        rw [← HZ.out.1, ← HZ.out.2, sameR, decide_eq_true_eq] at this
        exact hb1 this.1
    · obtain rfl : k = n1 := by omega
      go_wp2_with fail
      have HK := Lib.hid hin.out.2
      have HB := hin.out.1
      clear hin x0 x1 y0 y1
      have HBx := Lib.hid HB
      clear HB
      go_loopg [6] n2 (fun d iv wr => ∃ j : Nat, d = n2 - j ∧ j ≤ n2 ∧ iv = .int .i64 j ∧ Hid (SameAt w w.heap.size #[.slice a1 k c1, .slice a2 n2 c2] #[.slice b1 k d1, .slice b2 n2 d2] 25 wr ∧ ∀ i (h1 : i < g.nodes.length) (h2 : i < h.nodes.length), i < j → sameN g.nodes[i] h.nodes[i] = true))
      case atStart => exact ⟨0, rfl, Nat.zero_le _, rfl, Lib.hid ⟨HBx.out, fun i _ _ hi => by omega⟩⟩
      case round =>
        obtain ⟨j, rfl, hj, rfl, hin⟩ := hrel
        obtain ⟨wp, rfl⟩ : ∃ wp, wp = wr := ⟨_, rfl⟩
        obtain ⟨x0, x1⟩ := cells2 hin.out.1.bx
        obtain ⟨y0, y1⟩ := cells2 hin.out.1.bY
        by_cases hlt : j < n2
        · have hkx : j < g.nodes.length := by have := H.out.1.e2; omega
          have hky : j < h.nodes.length := by have := H.out.2.1.e2; omega
          obtain ⟨bx, ox, ak, nk, ck, rfl, hx⟩ := H.out.1.nodes.keep hin.out.1.ch.kp j hkx
          obtain ⟨bb, oy, bk, mk, dk, rfl, hy⟩ := H.out.2.1.nodes.keep hin.out.1.ch.kp j hky
          obtain ⟨zx, hzx⟩ : ∃ z, z = g.nodes[j] := ⟨_, rfl⟩
          obtain ⟨zy, hzy⟩ : ∃ z, z = h.nodes[j] := ⟨_, rfl⟩
          rw [← hzx] at hx
          rw [← hzy] at hy
          obtain ⟨u0, u1, u2, u3, u4, u5, u6, u7, u8, p1, p2, p3, p4⟩ := hx
          obtain ⟨v0, v1, v2, v3, v4, v5, v6, v7, v8, q1, q2, q3, q4⟩ := hy
          obtain ⟨S, hS⟩ : ∃ S, S = sameN zx zy := ⟨_, rfl⟩
          have cA := calls_rg (w := wp) (fun w1 h1 => SameNode_any w1 zx zy ak bk nk ck mk dk p1 q1 (by unfold maxLen at p3; omega) (p4.keep h1.kp) (q4.keep h1.kp))
          rw [← hS] at cA
          unfold Nd.cells at cA
          have HZ := Lib.hid (And.intro hzx (And.intro hzy hS))
          clear hzx hzy hS p1 p2 p3 p4 q1 q2 q3 q4
          have kx1 := cell_rg x1
          have ky1 := cell_rg y1
          have ku0 := cell_rg u0
          have ku1 := cell_rg u1
          have ku2 := cell_rg u2
          have ku3 := cell_rg u3
          have ku4 := cell_rg u4
          have ku5 := cell_rg u5
          have ku6 := cell_rg u6
          have ku7 := cell_rg u7
          have ku8 := cell_rg u8
          have kv0 := cell_rg v0
          have kv1 := cell_rg v1
          have kv2 := cell_rg v2
          have kv3 := cell_rg v3
          have kv4 := cell_rg v4
          have kv5 := cell_rg v5
          have kv6 := cell_rg v6
          have kv7 := cell_rg v7
          have kv8 := cell_rg v8
          have qn0 : (0 : Int) ≤ (j : Int) := by omega
          have qn1 : (j : Int) < (n2 : Int) := by omega
          go_wp2_with fail
          refine wp_region_quiet_below (by kernel_rfl) (by kernel_rfl) ?_
          repeat (go_big_quiet_step (with_reducible exact cA _ _))
          refine wpQuiet_nil ?_
          intro w4 hw4
          have HR4 := Lib.hid (hin.out.1.keep (chg_of_rg hw4))
          clear hw4 kx1 ky1 ku0 ku1 ku2 ku3 ku4 ku5 ku6 ku7 ku8 kv0 kv1 kv2 kv3 kv4 kv5 kv6 kv7 kv8 cA x0 x1 y0 y1 u0 u1 u2 u3 u4 u5 u6 u7 u8 v0 v1 v2 v3 v4 v5 v6 v7 v8
          cases S
          · go_wp2_with fail
            go_ret
            refine ⟨ret_bool ?_, HR4.out.ch⟩
            rw [H.out.2.2]
            symm
            rw [← Bool.not_eq_true, sameG_iff]
            rintro ⟨_, _, k2⟩
            have := k2 j hkx hky
            rw [← HZ.out.1, ← HZ.out.2.1, ← HZ.out.2.2] at this
            cases this
          · go_wp2_with fail
            go_roundg (n2 - (j + 1))
            case measure => omega
            case rel =>
              refine ⟨j + 1, rfl, by omega, by go_num, Lib.hid ⟨HR4.out, fun i h1 h2 hi => ?_⟩⟩
              by_cases e : i = j
              · subst e
                rw [← HZ.out.1, ← HZ.out.2.1, ← HZ.out.2.2]
              · exact hin.out.2 i h1 h2 (by omega)
        · obtain rfl : j = n2 := by omega
          go_wp2_with fail
          go_ret
          refine ⟨ret_bool ?_, hin.out.1.ch⟩
          rw [H.out.2.2]
          symm
          rw [sameG_iff]
          have e1 := H.out.1.e1
          have e2 := H.out.2.1.e1
          have e3 := H.out.1.e2
          have e4 := H.out.2.1.e2
          exact ⟨⟨by omega, fun i h1 h2 => HK.out i h1 h2 (by omega)⟩, ⟨by omega, fun i h1 h2 => hin.out.2 i h1 h2 (by omega)⟩⟩
end Go.Proofs.Ytibgfgfmljhimaa

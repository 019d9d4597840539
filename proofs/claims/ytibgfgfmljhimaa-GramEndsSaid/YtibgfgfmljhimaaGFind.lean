/-
  The library's IndexFunc at rules and at nodes, whatever test; the place of a rule's name, both ways.
  Conditions: none.
-/
import Derived.Test.YtibgfgfmljhimaaGBase
set_option linter.unusedVariables false
set_option linter.unusedSimpArgs false
namespace Go.Proofs.Ytibgfgfmljhimaa
open Go.RowKit Go.MapKept

theorem findIdx_at {α : Type} {p : α → Bool} {l : List α} {k : Nat} (hk : k < l.length) (hp : p l[k] = true) (hb : ∀ j (h : j < k), p (l[j]'(by omega)) = false) : l.findIdx p = k := by
  rw [List.findIdx_eq (by omega)]
  exact ⟨hp, fun j hj => hb j hj⟩
theorem findIdx_none {α : Type} {p : α → Bool} {l : List α} (hb : ∀ j (h : j < l.length), p l[j] = false) : l.findIdx p = l.length := by
  rw [List.findIdx_eq_length]
  intro x hx
  obtain ⟨j, hj, rfl⟩ := List.mem_iff_getElem.1 hx
  exact hb j hj
/-- The first place, or -1. -/
def idxI {α : Type} (l : List α) (p : α → Bool) : Int := if l.findIdx p < l.length then (l.findIdx p : Int) else -1

set_option maxRecDepth 100000 in
set_option maxHeartbeats 1000000 in
theorem idxRules_any (w : World) (a : Option Addr) (n c : Nat) (rs : List Rl) (g : Nat) (lb : Array Value) (p : Rl → Bool) (hn : n = rs.length) (hs : n ≤ 9223372036854775807) (hr : Rules w a rs)
    (hp : ∀ i (h : i < rs.length) w1, Chg [] w w1 → Calls Try.prog g (#[.agg #[.string rs[i].name, .int .i64 rs[i].body]] ++ lb) w1 fun e w2 => e = .returned (.bool (p rs[i])) ∧ Chg [] w1 w2)
    (eg : ∀ args w, (callFunc g args).run Try.prog w = .ok (.enter g args) w) :
    Calls Try.prog 87 #[.slice a n c, .func (.func g) #[] lb] w fun e w' => e = .returned (.int .i64 (idxI rs p)) ∧ Chg [] w w' := by
  have H := Lib.hid (And.intro hn (And.intro hr hp))
  clear hn hr hp
  go_enter Try.func87, Try.ntmps87
  go_wp2_with fail
  go_loopg [8] n (fun d iv wr => ∃ k : Nat, d = n - k ∧ k ≤ n ∧ iv = .int .i64 k ∧ Chg [] w wr ∧ Hid (∀ j (h : j < rs.length), j < k → p rs[j] = false))
  case atStart => exact ⟨0, rfl, Nat.zero_le _, rfl, Chg.refl _ _, Lib.hid (fun j _ h => by omega)⟩
  case round =>
    obtain ⟨k, rfl, hk, rfl, hcw, hb⟩ := hrel
    have HC := Lib.hid hcw
    clear hcw
    by_cases hlt : k < n
    · have hk' : k < rs.length := by have := H.out.1; omega
      obtain ⟨b, o, rfl, h1, h2⟩ := (H.out.2.1.keep HC.out.kp) k hk'
      have hcall := H.out.2.2 k hk'
      have hbk := World.block_lt_of_cell? _ _ h1
      simp only at hbk
      obtain ⟨r, hr⟩ : ∃ r, r = rs[k] := ⟨_, rfl⟩
      rw [← hr] at hcall h1 h2
      obtain ⟨nm, bd⟩ := r
      have HR := Lib.hid (And.intro hr hcall)
      clear hcall hr
      dsimp only at h1 h2
      go_wp2_with fail
      refine (HR.out.2 _ HC.out).mono ?_
      rintro e w1 ⟨rfl, hc1⟩
      have H1 := Lib.hid hc1
      clear hc1
      cases hp : p ⟨nm, bd⟩
      · go_wp2
        go_roundg (n - (k + 1))
        case measure => omega
        case rel =>
          refine ⟨k + 1, rfl, by omega, by go_num, HC.out.tr H1.out, Lib.hid fun j h hj => ?_⟩
          by_cases e : j = k
          · subst e; rw [← HR.out.1]; exact hp
          · exact hb.out j h (by omega)
      · go_wp2
        go_ret
        refine ⟨ret_int ?_, HC.out.tr H1.out⟩
        have hk' : k < rs.length := by have := H.out.1; omega
        have hf := findIdx_at hk' (by rw [← HR.out.1]; exact hp) (fun j hj => hb.out j (by omega) hj)
        unfold idxI
        rw [hf, if_pos hk']
    · obtain rfl : k = n := by omega
      go_wp2
      go_ret
      refine ⟨ret_int ?_, HC.out⟩
      have hf := findIdx_none (p := p) (l := rs) (fun j hj => hb.out j hj (by have := H.out.1; omega))
      unfold idxI
      rw [hf, if_neg (by omega)]

set_option maxRecDepth 100000 in
set_option maxHeartbeats 1000000 in
theorem idxNodes_any (w : World) (a : Option Addr) (n c : Nat) (ns : List Nd) (g : Nat) (lb : Array Value) (p : Nd → Bool) (hn : n = ns.length) (hs : n ≤ 9223372036854775807) (hr : Nodes w a ns)
    (hp : ∀ i (h : i < ns.length) b o ak nk ck, NodeAt w b o ns[i] ak nk ck → ∀ w1, Chg [] w w1 → Calls Try.prog g (#[.agg (ns[i].cells ak nk ck)] ++ lb) w1 fun e w2 => e = .returned (.bool (p ns[i])) ∧ Chg [] w1 w2)
    (eg : ∀ args w, (callFunc g args).run Try.prog w = .ok (.enter g args) w) :
    Calls Try.prog 156 #[.slice a n c, .func (.func g) #[] lb] w fun e w' => e = .returned (.int .i64 (idxI ns p)) ∧ Chg [] w w' := by
  have H := Lib.hid (And.intro hn (And.intro hr hp))
  clear hn hr hp
  go_enter Try.func156, Try.ntmps156
  go_wp2_with fail
  go_loopg [8] n (fun d iv wr => ∃ k : Nat, d = n - k ∧ k ≤ n ∧ iv = .int .i64 k ∧ Chg [] w wr ∧ Hid (∀ j (h : j < ns.length), j < k → p ns[j] = false))
  case atStart => exact ⟨0, rfl, Nat.zero_le _, rfl, Chg.refl _ _, Lib.hid (fun j _ h => by omega)⟩
  case round =>
    obtain ⟨k, rfl, hk, rfl, hcw, hb⟩ := hrel
    have HC := Lib.hid hcw
    clear hcw
    by_cases hlt : k < n
    · have hk' : k < ns.length := by have := H.out.1; omega
      obtain ⟨b, o, ak, nk, ck, rfl, hx⟩ := H.out.2.1 k hk'
      have hcall := H.out.2.2 k hk' b _ ak nk ck hx
      have hx' := hx.keep HC.out.kp
      obtain ⟨x, hr⟩ : ∃ x, x = ns[k] := ⟨_, rfl⟩
      rw [← hr] at hcall hx'
      obtain ⟨xk, x0, x1, x2, x3, xs, xr, xl, xkids⟩ := x
      obtain ⟨h0, h1, h2, h3, h4, h5, h6, h7, h8, q1, q2, q3, q4⟩ := hx'
      clear q1 q2 q3 q4
      have hbk := World.block_lt_of_cell? _ _ h0
      simp only at hbk
      unfold Nd.cells at hcall
      dsimp only at h0 h1 h2 h3 h4 h5 h6 h7 h8 hcall
      have HR := Lib.hid (And.intro hr hcall)
      clear hcall hr hx
      go_wp2_with fail
      refine (HR.out.2 _ HC.out).mono ?_
      rintro e w1 ⟨rfl, hc1⟩
      have H1 := Lib.hid hc1
      clear hc1
      cases hp : p ⟨xk, x0, x1, x2, x3, xs, xr, xl, xkids⟩
      · go_wp2
        go_roundg (n - (k + 1))
        case measure => omega
        case rel =>
          refine ⟨k + 1, rfl, by omega, by go_num, HC.out.tr H1.out, Lib.hid fun j h hj => ?_⟩
          by_cases e : j = k
          · subst e; rw [← HR.out.1]; exact hp
          · exact hb.out j h (by omega)
      · go_wp2
        go_ret
        refine ⟨ret_int ?_, HC.out.tr H1.out⟩
        have hk' : k < ns.length := by have := H.out.1; omega
        have hf := findIdx_at hk' (by rw [← HR.out.1]; exact hp) (fun j hj => hb.out j (by omega) hj)
        unfold idxI
        rw [hf, if_pos hk']
    · obtain rfl : k = n := by omega
      go_wp2
      go_ret
      refine ⟨ret_int ?_, HC.out⟩
      have hf := findIdx_none (p := p) (l := ns) (fun j hj => hb.out j hj (by have := H.out.1; omega))
      unfold idxI
      rw [hf, if_neg (by omega)]
end Go.Proofs.Ytibgfgfmljhimaa

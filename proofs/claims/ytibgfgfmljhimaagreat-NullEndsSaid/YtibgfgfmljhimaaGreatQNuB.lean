/-
  A node may match nothing, by the ranks as they stand: the program's walk.
  Conditions: the grammar reads as data; kids stand behind their node; calls are of rules.
-/
import Derived.Test.YtibgfgfmljhimaaGreatQNuA
import Derived.Shelf.Abstract
set_option linter.unusedVariables false
set_option linter.unusedSimpArgs false
namespace Go.Proofs.YtibgfgfmljhimaaGreat
open Go.RowKit Go.MapKept Go.Shelf

set_option maxRecDepth 100000 in
set_option maxHeartbeats 4000000 in
theorem may_some (w : World) (B R m : Nat) (a1 : Option Addr) (n1 c1 : Nat) (a2 : Option Addr) (n2 c2 : Nat) (g : Gr) (rs : List Int) (hw : WorkAt w B R m a1 n1 c1 a2 n2 c2 g rs) (n : Nat) (hn : n < g.nodes.length) (f : Nat) (b : Bool) (hf : waysM g.nodes[n].k = some (shapeF f))
    (hc : ∀ w1, Chg [] w w1 → ∀ ak nk ck, nk = g.nodes[n].kids.length → nk ≤ ck → ck ≤ maxLen → Ints w1 ak g.nodes[n].kids → Calls Tryz.prog f #[.pointer (some ⟨B, 0, none⟩), .agg (g.nodes[n].cells ak nk ck)] w1 fun e w' => e = .returned (.bool b) ∧ Chg [] w1 w')
    (eg : ∀ args w, (callFunc f args).run Tryz.prog w = .ok (.enter f args) w) :
    Calls Tryz.prog 82 #[.pointer (some ⟨B, 0, none⟩), .int .i64 n] w fun e w' => e = .returned (.bool b) ∧ Chg [] w w' := by
  obtain ⟨lk, hlk⟩ := kindKey g.nodes[n].k (hw.gram.wf.nodes _ (List.getElem_mem hn)).k
  obtain ⟨bn, o, ak, nk, ck, hae, hx⟩ := hw.gram.nodes n hn
  have hl := (hw.ways.chg (w' := w.drew) ((Chg.refl [] w).drew) (by simp)).look kind_inj Tryz.keyedKind Tryz.underlying80 (z := .nilFunc) rfl hlk false
  rw [hf] at hl
  simp only [Bool.false_eq_true, if_false, Option.getD_some, shapeF] at hl
  have hbx := hw.box
  have y0 := cell_of_cells hbx 0
  have y1 := cell_of_cells hbx 1
  have y3 := cell_of_cells hbx 3
  simp at y0 y1 y3
  have hn2 : n < n2 := by have := hw.gram.e2; omega
  have hs2 := hw.gram.small.2
  have hcall := hc
  obtain ⟨x, hxe⟩ : ∃ x, x = g.nodes[n] := ⟨_, rfl⟩
  rw [← hxe] at hx hl hcall
  obtain ⟨h0, h1, h2, h3, h4, h5, h6, h7, h8, q1, q2, q3, q4⟩ := hx
  have H := Lib.hid (And.intro hcall (And.intro q1 (And.intro q2 (And.intro q3 q4))))
  clear hc hcall hw hf hlk hxe hbx q1 q2 q3 q4
  subst hae
  go_enter Tryz.func82, Tryz.ntmps82
  go_wp2_with fail
  go_region
  all_goals clear hl
  all_goals have hnq := fun (w : World) => neq_func Tryz.underlying142 w (.func f) #[] #[]
  all_goals go_wp2_with fail
  all_goals have hq := H.out.1 w.drew (Chg.refl _ _).drew ak nk ck H.out.2.1 H.out.2.2.1 H.out.2.2.2.1 (H.out.2.2.2.2.keep ((Chg.refl [] _).drew).kp)
  all_goals unfold Nd.cells at hq
  all_goals refine hq.mono ?_
  all_goals rintro e w3 ⟨rfl, hc3⟩
  all_goals have H3 := Lib.hid hc3
  all_goals clear hc3
  all_goals go_wp2
  all_goals go_ret
  all_goals exact ⟨rfl, (Chg.refl _ _).drew.tr H3.out⟩

set_option maxRecDepth 100000 in
set_option maxHeartbeats 4000000 in
theorem may_none (w : World) (B R m : Nat) (a1 : Option Addr) (n1 c1 : Nat) (a2 : Option Addr) (n2 c2 : Nat) (g : Gr) (rs : List Int) (hw : WorkAt w B R m a1 n1 c1 a2 n2 c2 g rs) (n : Nat) (hn : n < g.nodes.length) (hf : waysM g.nodes[n].k = none) :
    Calls Tryz.prog 82 #[.pointer (some ⟨B, 0, none⟩), .int .i64 n] w fun e w' => e = .returned (.bool false) ∧ Chg [] w w' := by
  obtain ⟨lk, hlk⟩ := kindKey g.nodes[n].k (hw.gram.wf.nodes _ (List.getElem_mem hn)).k
  obtain ⟨bn, o, ak, nk, ck, hae, hx⟩ := hw.gram.nodes n hn
  have hl := (hw.ways.chg (w' := w.drew) ((Chg.refl [] w).drew) (by simp)).look kind_inj Tryz.keyedKind Tryz.underlying80 (z := .nilFunc) rfl hlk false
  rw [hf] at hl
  simp only [Bool.false_eq_true, if_false, Option.getD_none] at hl
  have hbx := hw.box
  have y0 := cell_of_cells hbx 0
  have y1 := cell_of_cells hbx 1
  have y3 := cell_of_cells hbx 3
  simp at y0 y1 y3
  have hn2 : n < n2 := by have := hw.gram.e2; omega
  have hs2 := hw.gram.small.2
  obtain ⟨x, hxe⟩ : ∃ x, x = g.nodes[n] := ⟨_, rfl⟩
  rw [← hxe] at hx hl
  obtain ⟨h0, h1, h2, h3, h4, h5, h6, h7, h8, q1, q2, q3, q4⟩ := hx
  clear hw hf hlk hxe hbx q1 q2 q3 q4
  subst hae
  go_enter Tryz.func82, Tryz.ntmps82
  go_wp2_with fail
  go_region
  all_goals clear hl
  all_goals have hnq := fun (w : World) => neq_func_nil Tryz.underlying142 w
  all_goals go_wp2
  all_goals go_ret
  all_goals exact ⟨rfl, (Chg.refl _ _).drew⟩

/-- THE NODE. -/
theorem may_any (B R m : Nat) (a1 : Option Addr) (n1 c1 : Nat) (a2 : Option Addr) (n2 c2 : Nat) (g : Gr) (rs : List Int) (hf : Falls g.nodes) (hq : ∀ x ∈ g.nodes, x.k = 5 → 0 ≤ x.r ∧ x.r < n1) :
    ∀ (d n : Nat), g.nodes.length - n ≤ d → n < g.nodes.length → ∀ w, WorkAt w B R m a1 n1 c1 a2 n2 c2 g rs →
    Calls Tryz.prog 82 #[.pointer (some ⟨B, 0, none⟩), .int .i64 n] w fun e w' => e = .returned (.bool (mayN g.nodes (callsL rs) n)) ∧ Chg [] w w' := by
  intro d
  induction d with
  | zero => intro n h1 h2; omega
  | succ d ih =>
    intro n hd hn w hw
    rw [mayN_eq hf _ hn]
    have key : ∀ (w1 : World), Chg [] w w1 → ∀ k ∈ g.nodes[n].kids, Calls Tryz.prog 82 #[.pointer (some ⟨B, 0, none⟩), .int .i64 k] w1 fun e w' => e = .returned (.bool (mayN g.nodes (callsL rs) k)) ∧ Chg [] w1 w' := by
      intro w1 h1 k hk
      obtain ⟨k1, k2⟩ := hf n hn k hk
      obtain ⟨j, rfl⟩ : ∃ j : Nat, k = j := ⟨k.toNat, by omega⟩
      exact ih j (by omega) (by omega) w1 (hw.chg h1)
    have hmax : maxLen ≤ 9223372036854775807 := by simp [maxLen]
    unfold kindMay easyK
    by_cases e1 : g.nodes[n].k = 1 ∨ g.nodes[n].k = 8 ∨ g.nodes[n].k = 10 ∨ g.nodes[n].k = 11 ∨ g.nodes[n].k = 12
    · rw [decide_eq_true e1, if_pos rfl]
      exact may_some w B R m a1 n1 c1 a2 n2 c2 g rs hw n hn 117 _ (by unfold waysM; rw [if_pos e1]) (fun w1 h1 ak nk ck _ _ _ _ => always_any w1 _ _ ak nk ck) (enters_of Tryz.func117 (by kernel_rfl) rfl)
    rw [decide_eq_false e1, if_neg (by simp)]
    by_cases e2 : g.nodes[n].k = 6 ∨ g.nodes[n].k = 9
    · rw [if_pos e2]
      exact may_some w B R m a1 n1 c1 a2 n2 c2 g rs hw n hn 118 _ (by unfold waysM; rw [if_neg e1, if_pos e2]) (fun w1 h1 ak nk ck q1 q2 q3 q4 => every_any w1 B _ ak nk ck _ q1 (by omega) q4 (fun w2 h2 => key w2 (h1.tr h2))) (enters_of Tryz.func118 (by kernel_rfl) rfl)
    rw [if_neg e2]
    by_cases e3 : g.nodes[n].k = 7
    · rw [if_pos e3]
      exact may_some w B R m a1 n1 c1 a2 n2 c2 g rs hw n hn 119 _ (by unfold waysM; rw [if_neg e1, if_neg e2, if_pos e3]) (fun w1 h1 ak nk ck q1 q2 q3 q4 => some_any w1 B _ ak nk ck _ q1 (by omega) q4 (fun w2 h2 => key w2 (h1.tr h2))) (enters_of Tryz.func119 (by kernel_rfl) rfl)
    rw [if_neg e3]
    by_cases e4 : g.nodes[n].k = 5
    · rw [if_pos e4]
      exact may_some w B R m a1 n1 c1 a2 n2 c2 g rs hw n hn 120 _ (by unfold waysM; rw [if_neg e1, if_neg e2, if_neg e3, if_pos e4]) (fun w1 h1 ak nk ck q1 q2 q3 q4 => called_any w1 B R m a1 n1 c1 a2 n2 c2 g rs _ ak nk ck (hw.chg h1) (hq _ (List.getElem_mem hn) e4)) (enters_of Tryz.func120 (by kernel_rfl) rfl)
    rw [if_neg e4]
    exact may_none w B R m a1 n1 c1 a2 n2 c2 g rs hw n hn (by unfold waysM; rw [if_neg e1, if_neg e2, if_neg e3, if_neg e4])
end Go.Proofs.YtibgfgfmljhimaaGreat

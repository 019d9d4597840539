/-
 What may match nothing, as plain data: by kinds, by rounds; what the rounds end in.
 Conditions: none.
-/
import Derived.Test.YtlklmpjakeedcaaGreatDoorSEnPlain
import Derived.Test.YtlklmpjakeedcaaGreatDoorSEnGWhole
import Derived.Test.YtlklmpjakeedcaaGreatDoorSEnGRule
import Derived.ProofKit
import Derived.OpenShut
import Derived.ChangeOld
import Derived.SizedLaws
import Derived.Deep.Slices
import Derived.Deep.Fields
import Derived.Lib.SmallJoins
import Derived.Laws.IdiomArrays
import Derived.Test.YtlklmpjakeedcaaGreatDoorSEnGOf
import Derived.Test.YtlklmpjakeedcaaGreatDoorSEnGNode
import Derived.Shelf.Abstract
set_option linter.unusedVariables false
set_option linter.unusedSimpArgs false
namespace Go.Proofs.YtlklmpjakeedcaaGreatDoor

/-! ### 1. A node, by its kids and a rule's answer -/
/-- The kinds that always may. -/
def easyK (k : Int) : Bool := decide (k = 1 ∨ k = 8 ∨ k = 10 ∨ k = 11 ∨ k = 12)
def kindMay (x : Nd) (C F : Int → Bool) : Bool :=
 if easyK x.k then true else if x.k = 6 ∨ x.k = 9 then x.kids.all F else if x.k = 7 then x.kids.any F else if x.k = 5 then C x.r else false
def mayF (ns : List Nd) (C : Int → Bool) : Nat → Int → Bool
 | 0, _ => false
 | f + 1, n => if n < 0 then false else match ns[n.toNat]? with | none => false | some x => kindMay x C (mayF ns C f)
/-- May a node match nothing, where rules answer C? -/
def mayN (ns : List Nd) (C : Int → Bool) (n : Int) : Bool := mayF ns C ns.length n
/-- Each kid stands behind its node. -/
def Falls (ns : List Nd) : Prop := ∀ n (h : n < ns.length), ∀ k ∈ ns[n].kids, (n : Int) < k ∧ k < ns.length

theorem kindMay_congr {x : Nd} {C D F G : Int → Bool} (hC : C x.r = D x.r) (hF : ∀ k ∈ x.kids, F k = G k) : kindMay x C F = kindMay x D G := by
 have h1 : x.kids.all F = x.kids.all G := by
  rw [Bool.eq_iff_iff, List.all_eq_true, List.all_eq_true]
  exact ⟨fun h k hk => (hF k hk) ▸ h k hk, fun h k hk => (hF k hk).symm ▸ h k hk⟩
 have h2 : x.kids.any F = x.kids.any G := by
  rw [Bool.eq_iff_iff, List.any_eq_true, List.any_eq_true]
  exact ⟨fun ⟨k, hk, h⟩ => ⟨k, hk, (hF k hk) ▸ h⟩, fun ⟨k, hk, h⟩ => ⟨k, hk, (hF k hk).symm ▸ h⟩⟩
 simp only [kindMay, h1, h2, hC]
/-- Fuel enough is enough. -/
theorem mayF_fuel {ns : List Nd} (hf : Falls ns) (C : Int → Bool) : ∀ (d : Nat) (n : Nat) (f g : Nat), ns.length - n ≤ d → ns.length - n ≤ f → ns.length - n ≤ g → mayF ns C f n = mayF ns C g n := by
 intro d
 induction d with
 | zero =>
  intro n f g hd h1 h2
  have hn : ns[n]? = none := List.getElem?_eq_none (by omega)
  have key : ∀ f, mayF ns C f n = false := fun f => by
   cases f with
   | zero => rfl
   | succ f => simp [mayF, hn]
  rw [key, key]
 | succ d ih =>
  intro n f g hd h1 h2
  by_cases hn : n < ns.length
  ·cases f with
   | zero => omega
   | succ f =>
    cases g with
    | zero => omega
    | succ g =>
     have hx : ns[n]? = some ns[n] := List.getElem?_eq_getElem hn
     simp only [mayF, Int.toNat_natCast, hx]
     split
     ·rfl
     ·refine kindMay_congr rfl (fun k hk => ?_)
      obtain ⟨k1, k2⟩ := hf n hn k hk
      obtain ⟨j, rfl⟩ : ∃ j : Nat, k = j := ⟨k.toNat, by omega⟩
      exact ih j f g (by omega) (by omega) (by omega)
  ·have hn : ns[n]? = none := List.getElem?_eq_none (by omega)
   have key : ∀ f, mayF ns C f n = false := fun f => by
    cases f with
    | zero => rfl
    | succ f => simp [mayF, hn]
   rw [key, key]
/-- THE ONE EQUATION of a node. -/
theorem mayN_eq {ns : List Nd} (hf : Falls ns) (C : Int → Bool) {n : Nat} (hn : n < ns.length) : mayN ns C n = kindMay ns[n] C (mayN ns C) := by
 unfold mayN
 rw [mayF_fuel hf C ns.length n ns.length (ns.length + 1) (by omega) (by omega) (by omega)]
 have hx : ns[n]? = some ns[n] := List.getElem?_eq_getElem hn
 simp only [mayF, Int.toNat_natCast, hx, if_neg (show ¬ ((n : Int) < 0) by omega)]
/-! ### 2. Ranks, by rounds -/
/-- A rule's rank when so many rounds are over; 0: it is not in. -/
def rk (g : Gr) : Nat → Nat → Nat
 | 0, _ => 0
 | j + 1, i => if rk g j i = 0 then (match g.rules[i]? with | none => 0 | some r => if mayN g.nodes (fun q => decide (0 ≤ q) && decide (0 < rk g j q.toNat)) r.body then j + 1 else 0) else rk g j i
/-- What a call may, when so many rounds are over. -/
def callsR (g : Gr) (j : Nat) (q : Int) : Bool := decide (0 ≤ q) && decide (0 < rk g j q.toNat)
def mayR (g : Gr) (j : Nat) (n : Int) : Bool := mayN g.nodes (callsR g j) n
theorem rk_succ (g : Gr) (j i : Nat) : rk g (j + 1) i = if rk g j i = 0 then (match g.rules[i]? with | none => 0 | some r => if mayR g j r.body then j + 1 else 0) else rk g j i := rfl
theorem rk_step (g : Gr) (j : Nat) {i : Nat} (hi : i < g.rules.length) : rk g (j + 1) i = if rk g j i = 0 ∧ mayR g j g.rules[i].body = true then j + 1 else rk g j i := by
 rw [rk_succ, List.getElem?_eq_getElem hi]
 by_cases h : rk g j i = 0
 ·by_cases hm : mayR g j g.rules[i].body = true
  ·simp [h, hm]
  ·simp [h, hm]
 ·simp [h]
theorem rk_out (g : Gr) (j : Nat) {i : Nat} (hi : g.rules.length ≤ i) : rk g j i = 0 := by
 induction j with
 | zero => rfl
 | succ j ih => rw [rk_succ, List.getElem?_eq_none hi, ih]; rfl
theorem rk_le (g : Gr) (j i : Nat) : rk g j i ≤ j := by
 induction j with
 | zero => exact Nat.le_refl _
 | succ j ih =>
  rw [rk_succ]
  split
  ·split
   ·exact Nat.zero_le _
   ·split
    ·exact Nat.le_refl _
    ·exact Nat.zero_le _
  ·exact Nat.le_succ_of_le ih
theorem rk_keep {g : Gr} {j i : Nat} (h : 0 < rk g j i) {m : Nat} (hm : j ≤ m) : rk g m i = rk g j i := by
 induction hm with
 | refl => rfl
 | step _ ih => rw [rk_succ, ih, if_neg (by omega)]
/-- A round that lets nobody in is the end. -/
def Still (g : Gr) (j : Nat) : Prop := ∀ i (hi : i < g.rules.length), rk g j i = 0 → mayR g j g.rules[i].body = false
theorem still_rk {g : Gr} {j : Nat} (h : Still g j) : ∀ m, j ≤ m → ∀ i, rk g m i = rk g j i := by
 intro m hm
 induction hm with
 | refl => exact fun _ => rfl
 | @step m hm ih =>
  intro i
  have hc : callsR g m = callsR g j := funext fun q => by simp only [callsR, ih]
  by_cases hi : i < g.rules.length
  ·rw [rk_step g m hi, ih i]
   split
   ·rename_i hq
    have h1 := h i hi hq.1
    rw [mayR, hc] at hq
    rw [mayR] at h1
    rw [h1] at hq
    cases hq.2
   ·rfl
  ·rw [rk_out g _ (by omega), rk_out g _ (by omega)]
theorem still_may {g : Gr} {j : Nat} (h : Still g j) {m : Nat} (hm : j ≤ m) : mayR g m = mayR g j := by
 have hc : callsR g m = callsR g j := funext fun q => by simp only [callsR, still_rk h m hm]
 funext n
 rw [mayR, mayR, hc]
theorem still_up {g : Gr} {j : Nat} (h : Still g j) {m : Nat} (hm : j ≤ m) : Still g m := fun i hi h0 => by
 rw [still_may h hm]
 exact h i hi (by rw [← still_rk h m hm i]; exact h0)
/-- How many are in. -/
def insR (g : Gr) (j : Nat) : Nat := ((List.range g.rules.length).filter fun i => decide (0 < rk g j i)).length
theorem filter_more {α : Type} {p q : α → Bool} : ∀ {l : List α}, (∀ x ∈ l, p x = true → q x = true) → (l.filter p).length ≤ (l.filter q).length ∧ ((∃ x ∈ l, q x = true ∧ p x = false) → (l.filter p).length < (l.filter q).length) := by
 intro l
 induction l with
 | nil => intro _; exact ⟨Nat.le_refl _, fun ⟨x, hx, _⟩ => by cases hx⟩
 | cons y l ih =>
  intro h
  obtain ⟨i1, i2⟩ := ih (fun x hx => h x (List.mem_cons_of_mem _ hx))
  have hy := h y (List.mem_cons_self ..)
  cases hp : p y with
  | true =>
   rw [List.filter_cons_of_pos hp, List.filter_cons_of_pos (hy hp)]
   refine ⟨by simpa using i1, fun ⟨x, hx, hq, hn⟩ => ?_⟩
   rcases List.mem_cons.1 hx with rfl | hx
   ·rw [hp] at hn; cases hn
   ·simpa using i2 ⟨x, hx, hq, hn⟩
  | false =>
   rw [List.filter_cons_of_neg (by simp [hp])]
   cases hq : q y with
   | true =>
    rw [List.filter_cons_of_pos hq]
    exact ⟨by simp; omega, fun _ => by simp; omega⟩
   | false =>
    rw [List.filter_cons_of_neg (by simp [hq])]
    refine ⟨i1, fun ⟨x, hx, hq2, hn⟩ => ?_⟩
    rcases List.mem_cons.1 hx with rfl | hx
    ·rw [hq] at hq2; cases hq2
    ·exact i2 ⟨x, hx, hq2, hn⟩
theorem ins_step (g : Gr) (j : Nat) : Still g j ∨ insR g j < insR g (j + 1) := by
 by_cases h : Still g j
 ·exact .inl h
 ·refine .inr ((filter_more (fun i hi h0 => ?_)).2 ?_)
  ·simp only [decide_eq_true_eq] at h0 ⊢
   rw [rk_keep h0 (Nat.le_succ j)]; exact h0
  ·simp only [Still, Classical.not_forall, Bool.not_eq_false] at h
   obtain ⟨i, hi, h0, hm⟩ := h
   refine ⟨i, List.mem_range.2 hi, ?_, ?_⟩
   ·rw [rk_step g j hi, if_pos ⟨h0, hm⟩]; simp
   ·simp [h0]
theorem ins_le (g : Gr) (j : Nat) : insR g j ≤ g.rules.length := by
 have := List.length_filter_le (fun i => decide (0 < rk g j i)) (List.range g.rules.length)
 simpa [insR] using this
theorem still_or (g : Gr) : ∀ j, Still g j ∨ j ≤ insR g j := by
 intro j
 induction j with
 | zero => exact .inr (Nat.zero_le _)
 | succ j ih =>
  rcases ih with h | h
  ·exact .inl (still_up h (Nat.le_succ j))
  ·rcases ins_step g j with h1 | h1
   ·exact .inl (still_up h1 (Nat.le_succ j))
   ·exact .inr (by omega)
/-- As many rounds as rules are enough. -/
theorem still_end (g : Gr) : Still g g.rules.length := by
 rcases still_or g g.rules.length with h | h
 ·exact h
 ·rcases ins_step g g.rules.length with h1 | h1
  ·exact h1
  ·have := ins_le g (g.rules.length + 1); omega
/-- While a round lets some in, there have been fewer rounds than rules. -/
theorem round_lt {g : Gr} {j : Nat} (h : ¬ Still g j) : j < g.rules.length := by
 by_cases hj : j < g.rules.length
 ·exact hj
 ·exact absurd (still_up (still_end g) (by omega)) h
/-- THE ANSWERS. -/
def rankG (g : Gr) (i : Nat) : Nat := rk g g.rules.length i
def mayG (g : Gr) (n : Int) : Bool := mayR g g.rules.length n
theorem rank_still {g : Gr} {j : Nat} (h : Still g j) (i : Nat) : rankG g i = rk g j i := by
 rcases Nat.le_total j g.rules.length with h1 | h1
 ·exact still_rk h _ h1 i
 ·exact (still_rk (still_end g) _ h1 i).symm
end Go.Proofs.YtlklmpjakeedcaaGreatDoor
set_option linter.unusedVariables false
set_option linter.unusedSimpArgs false
namespace Go.Proofs.YtlklmpjakeedcaaGreatDoor

theorem falls_right {g : Gr} (h : rightB g = true) : Falls g.nodes := fun n hn k hk => right_kids h hn k hk
end Go.Proofs.YtlklmpjakeedcaaGreatDoor
set_option linter.unusedVariables false
set_option linter.unusedSimpArgs false
namespace Go.Proofs.YtlklmpjakeedcaaGreatDoor

def Nd.shift (o : Int) (x : Nd) : Nd := { x with kids := x.kids.map (· + o) }
def movedL (l : List Nd) (o : Int) : List Nd := l.map (Nd.shift o)
theorem movedL_len (l : List Nd) (o : Int) : (movedL l o).length = l.length := by simp [movedL]
/-- The nodes of bodies, one behind the other. -/
def gramN : List (List Nd) → Nat → List Nd
 | [], _ => []
 | b :: bs, o => movedL b o ++ gramN bs (o + b.length)
def gramO : List (List Nd) → Nat → List Int
 | [], _ => []
 | b :: bs, o => (o : Int) :: gramO bs (o + b.length)

/-! ### 1. A segment stands elsewhere -/
/-! ### 2. Something ahead of each body -/
theorem gramO_len (bs : List (List Nd)) (o : Nat) : (gramO bs o).length = bs.length := by
 induction bs generalizing o with
 | nil => rfl
 | cons b bs ih => simp [gramO, ih]
theorem gramN_len : ∀ (bs : List (List Nd)) (o : Nat), (gramN bs o).length = (bs.map List.length).sum := by
 intro bs
 induction bs with
 | nil => intro o; rfl
 | cons b bs ih => intro o; simp [gramN, ih, movedL_len]
def bareN (k : Int) : Nd := ⟨k, 0, 0, 0, 0, ⟨#[]⟩, 0, 0, []⟩
end Go.Proofs.YtlklmpjakeedcaaGreatDoor
set_option linter.unusedVariables false
set_option linter.unusedSimpArgs false
namespace Go.Proofs.YtlklmpjakeedcaaGreatDoor

end Go.Proofs.YtlklmpjakeedcaaGreatDoor
set_option linter.unusedVariables false
set_option linter.unusedSimpArgs false
namespace Go.Proofs.YtlklmpjakeedcaaGreatDoor
open Go.RowKit Go.MapKept Go.Shelf

set_option maxRecDepth 100000 in
set_option maxHeartbeats 1000000 in
theorem Right_any (w : World) (a1 : Option Addr) (n1 c1 : Nat) (a2 : Option Addr) (n2 c2 : Nat) (g : Gr) (hg : GramAt w a1 n1 c1 a2 n2 c2 g) :
  Calls Tryz.prog 14 #[.agg #[.slice a1 n1 c1, .slice a2 n2 c2]] w fun e w' => e = .returned (.bool (rightB g)) ∧ Chg [] w w' := by
 have HG := Lib.hid hg
 clear hg
 go_enter Tryz.func14, Tryz.ntmps14
 go_wp2_with fail
 refine (whole_any _ a1 n1 c1 a2 n2 c2 g (HG.out.keep ((Chg.refl [] _).alloc _).kp)).mono ?_
 rintro e w2 ⟨s1, m1, d1, s2, m2, d2, rfl, hc2, ht⟩
 have H2 := Lib.hid hc2
 clear hc2 ht
 go_wp2
 go_ret
 exact ⟨ret_bool (rightB_iff g).symm, (((Chg.refl _ _).alloc _).tr H2.out).alloc _⟩

end Go.Proofs.YtlklmpjakeedcaaGreatDoor
set_option linter.unusedVariables false
set_option linter.unusedSimpArgs false
namespace Go.Proofs.YtlklmpjakeedcaaGreatDoor
open Go.RowKit Go.MapKept Go.Shelf

def Reach (g : Gr) : Prop := g.rules.length ≤ 17592186044416 ∧ g.nodes.length ≤ 17592186044416 ∧ ∀ x ∈ g.nodes, x.kids.length ≤ 17592186044416

end Go.Proofs.YtlklmpjakeedcaaGreatDoor
set_option linter.unusedVariables false
set_option linter.unusedSimpArgs false
namespace Go.Proofs.YtlklmpjakeedcaaGreatDoor
open Go.RowKit Go.MapKept Go.Shelf

/-- The argument's box, as it was, in a later world. -/
structure GrBox (w : World) (B : Nat) (a1 : Option Addr) (n1 c1 : Nat) (a2 : Option Addr) (n2 c2 : Nat) (wr : World) : Prop where
 ch : Chg [] w wr
 box : wr.heap[B]? = some (.cells #[.slice a1 n1 c1, .slice a2 n2 c2] 31 (0, 0))
theorem GrBox.keep {w wr w' : World} {B : Nat} {a1 : Option Addr} {n1 c1 : Nat} {a2 : Option Addr} {n2 c2 : Nat} (h : GrBox w B a1 n1 c1 a2 n2 c2 wr) (hc : Chg [] wr w') : GrBox w B a1 n1 c1 a2 n2 c2 w' := ⟨h.ch.tr hc, hc.heap h.box (by simp)⟩
theorem GrBox.new (w : World) (a1 : Option Addr) (n1 c1 : Nat) (a2 : Option Addr) (n2 c2 : Nat) : GrBox w w.heap.size a1 n1 c1 a2 n2 c2 (w.alloc (.cells #[.slice a1 n1 c1, .slice a2 n2 c2] 31)) := ⟨(Chg.refl _ _).alloc _, heap_alloc_same w _⟩

end Go.Proofs.YtlklmpjakeedcaaGreatDoor
set_option linter.unusedVariables false
set_option linter.unusedSimpArgs false
namespace Go.Proofs.YtlklmpjakeedcaaGreatDoor
open Go.ChangeShapes Go.WideShapes Go.ChangeAt Go.RowKit Go.Deep Go.Joins

theorem add_zero (a : Addr) : a.add 0 = a := by simp [Addr.add]

section
variable {H : Type} {enc : TypeId × Value → H} {w : World} {base : Nat} {held : Bool}

/-- All that is weighed within a datum is within the reach. -/
def Within (t : TypeId) (d : DataW H) : Prop := ∀ n ∈ d.weights Tryz.prog t, n ≤ reachBytes

end
end Go.Proofs.YtlklmpjakeedcaaGreatDoor
set_option linter.unusedVariables false
set_option linter.unusedSimpArgs false
namespace Go.Proofs.YtlklmpjakeedcaaGreatDoor
open Go.RowKit Go.MapKept Go.Shelf

theorem chain_next {g : Gr} {t : List (Nat × Nat)} {k x e : Nat} (hk : k < g.rules.length) (h : chainT g t (g.rules.drop k) k x = some e) :
  ruleI g.rules g.rules[k].name = (k : Int) ∧ g.rules[k].body = (x : Int) ∧ ∃ z h, t[x]? = some (z, h) ∧ h ≤ 16 ∧ chainT g t (g.rules.drop (k + 1)) (k + 1) (x + z) = some e := by
 rw [chainT_at hk] at h
 split at h
 ·rename_i hc
  simp only [Bool.and_eq_true, decide_eq_true_eq] at hc
  split at h
  ·cases h
  ·rename_i z hh hz
   split at h
   ·rename_i hle
    exact ⟨hc.1.2, hc.2, z, hh, hz, hle, h⟩
   ·cases h
 ·cases h
theorem whole_chain {g : Gr} {t : List (Nat × Nat)} (ht : wholeT g = some t) : chainT g t g.rules 0 0 = some g.nodes.length := by
 unfold wholeT at ht
 split at ht
 ·split at ht
  ·cases ht
  ·rename_i t' ht'
   split at ht
   ·rename_i hc
    simp only [Option.some.injEq] at ht
    subst ht
    simpa using hc
   ·cases ht
 ·cases ht
theorem chain_le {g : Gr} {t : List (Nat × Nat)} (ht : tab g.nodes = some t) {x z h : Nat} (hz : t[x]? = some (z, h)) : x < g.nodes.length ∧ 1 ≤ z ∧ x + z ≤ g.nodes.length := by
 have hxl : x < g.nodes.length := by
  have h3 := (List.getElem?_eq_some_iff.1 hz).1
  have := (tab_ok ht).1
  omega
 obtain ⟨z', h', hz', h1, hle, _⟩ := tabOk_le (tab_ok ht) (Nat.zero_le x) hxl
 rw [Nat.sub_zero, hz] at hz'
 cases hz'
 exact ⟨hxl, h1, hle⟩

end Go.Proofs.YtlklmpjakeedcaaGreatDoor
set_option linter.unusedVariables false
set_option linter.unusedSimpArgs false
namespace Go.Proofs.YtlklmpjakeedcaaGreatDoor
open Go.RowKit Go.MapKept Go.Shelf

def waysM (k : Int) : Option Value :=
 if k = 1 ∨ k = 8 ∨ k = 10 ∨ k = 11 ∨ k = 12 then some (shapeF 153) else if k = 6 ∨ k = 9 then some (shapeF 154)
 else if k = 7 then some (shapeF 155) else if k = 5 then some (shapeF 156) else none
/-- What a call may, by ranks as they stand. -/
def callsL (rs : List Int) (q : Int) : Bool := decide (0 ≤ q) && decide (0 < (rs[q.toNat]?).getD 0)
/-- The work in memory. -/
structure WorkAt (W : World) (B R m : Nat) (a1 : Option Addr) (n1 c1 : Nat) (a2 : Option Addr) (n2 c2 : Nat) (g : Gr) (rs : List Int) : Prop where
 box : W.heap[B]? = some (.cells #[.slice a1 n1 c1, .slice a2 n2 c2, .slice (some ⟨R, 0, none⟩) n1 n1, .map (some m)] 195 (0, 0))
 gram : GramAt W a1 n1 c1 a2 n2 c2 g
 row : W.heap[R]? = some (rowOf n1 rs)
 len : rs.length = n1
 ways : MapIs Tryz.prog 46 (Value.int .i64) W m waysM
theorem WorkAt.chg {W W' : World} {B R m : Nat} {a1 : Option Addr} {n1 c1 : Nat} {a2 : Option Addr} {n2 c2 : Nat} {g : Gr} {rs : List Int} (h : WorkAt W B R m a1 n1 c1 a2 n2 c2 g rs) (hc : Chg [] W W') : WorkAt W' B R m a1 n1 c1 a2 n2 c2 g rs :=
 ⟨hc.heap h.box (by simp), h.gram.keep hc.kp, hc.heap h.row (by simp), h.len, h.ways.chg hc (by simp)⟩

set_option maxRecDepth 100000 in
set_option maxHeartbeats 1000000 in
theorem always_any (w : World) (p : Value) (x : Nd) (a : Option Addr) (n c : Nat) : Calls Tryz.prog 153 #[p, .agg (x.cells a n c)] w fun e w' => e = .returned (.bool true) ∧ Chg [] w w' := by
 unfold Nd.cells
 go_enter Tryz.func153, Tryz.ntmps153
 go_wp2_with fail
 go_ret
 exact ⟨rfl, (Chg.refl _ _).alloc _⟩

set_option maxRecDepth 100000 in
set_option maxHeartbeats 2000000 in
theorem every_any (w : World) (B : Nat) (x : Nd) (a : Option Addr) (n c : Nat) (M : Int → Bool) (hn : n = x.kids.length) (hs : n ≤ 9223372036854775807) (hz : Ints w a x.kids)
  (hc : ∀ w1, Chg [] w w1 → ∀ k ∈ x.kids, Calls Tryz.prog 105 #[.pointer (some ⟨B, 0, none⟩), .int .i64 k] w1 fun e w' => e = .returned (.bool (M k)) ∧ Chg [] w1 w') :
  Calls Tryz.prog 154 #[.pointer (some ⟨B, 0, none⟩), .agg (x.cells a n c)] w fun e w' => e = .returned (.bool (x.kids.all M)) ∧ Chg [] w w' := by
 obtain ⟨R, hR⟩ : ∃ R, R = x.kids.all M := ⟨_, rfl⟩
 rw [← hR]
 have H := Lib.hid (And.intro hn (And.intro hz (And.intro hc hR)))
 clear hn hz hc hR
 unfold Nd.cells
 go_enter Tryz.func154, Tryz.ntmps154
 have hb := heap_alloc_same w (.cells #[.int .i64 x.k, .int .u64 x.c0, .int .u64 x.c1, .int .u64 x.c2, .int .u64 x.c3, .string x.s, .int .i64 x.r, .int .i64 x.l, .slice a n c] 65)
 obtain ⟨x0, x1, x2, x3, x4, x5, x6, x7, x8⟩ := cells9 hb
 clear hb
 go_wp2_with fail
 go_loopg [10] n (fun d iv wr => ∃ k : Nat, d = n - k ∧ k ≤ n ∧ iv = .int .i64 k ∧ Hid (Chg [] w wr ∧ ∀ j (h : j < k) (h' : j < x.kids.length), M x.kids[j] = true))
 case atStart => exact ⟨0, rfl, Nat.zero_le _, rfl, Lib.hid ⟨(Chg.refl _ _).alloc _, fun j h => by omega⟩⟩
 case round =>
  obtain ⟨k, rfl, hk, rfl, hin⟩ := hrel
  obtain ⟨wq, rfl⟩ : ∃ wq, wq = wr := ⟨_, rfl⟩
  by_cases hlt : k < n
  ·have hkx : k < x.kids.length := by have := H.out.1; omega
   obtain ⟨bx, ox, rfl, hx⟩ := H.out.2.1 k hkx
   have hx := hin.out.1.kp.2 _ _ hx
   obtain ⟨z, hzx⟩ : ∃ z, z = x.kids[k] := ⟨_, rfl⟩
   rw [← hzx] at hx
   obtain ⟨r, hr⟩ : ∃ r, r = M z := ⟨_, rfl⟩
   have hcall := H.out.2.2.1 wq hin.out.1 z (by rw [hzx]; exact List.getElem_mem hkx)
   rw [← hr] at hcall
   have HZ := Lib.hid (And.intro hzx (And.intro hr hcall))
   clear hzx hr hcall
   go_wp2_with fail
   refine HZ.out.2.2.mono ?_
   rintro e w3 ⟨rfl, hc3⟩
   have H3 := Lib.hid (hin.out.1.tr hc3)
   clear hc3
   cases r with
   | false =>
    go_wp2
    go_ret
    refine ⟨ret_bool ?_, H3.out⟩
    rw [H.out.2.2.2, eq_comm]
    refine Bool.eq_false_iff.2 (fun h => ?_)
    rw [List.all_eq_true] at h
    have h1 := h _ (List.getElem_mem hkx)
    rw [← HZ.out.1, ← HZ.out.2.1] at h1
    cases h1
   | true =>
    go_wp2
    go_roundg (n - (k + 1))
    case measure => omega
    case rel =>
     refine ⟨k + 1, rfl, by omega, by go_num, Lib.hid ⟨H3.out, fun j h h' => ?_⟩⟩
     by_cases hj : j = k
     ·subst hj; rw [← HZ.out.1, ← HZ.out.2.1]
     ·exact hin.out.2 j (by omega) h'
  ·obtain rfl : k = n := by omega
   go_wp2
   go_ret
   refine ⟨ret_bool ?_, hin.out.1⟩
   rw [H.out.2.2.2, eq_comm, List.all_eq_true]
   intro z hz
   obtain ⟨j, hj, rfl⟩ := List.mem_iff_getElem.1 hz
   exact hin.out.2 j (by have := H.out.1; omega) hj

set_option maxRecDepth 100000 in
set_option maxHeartbeats 2000000 in
theorem some_any (w : World) (B : Nat) (x : Nd) (a : Option Addr) (n c : Nat) (M : Int → Bool) (hn : n = x.kids.length) (hs : n ≤ 9223372036854775807) (hz : Ints w a x.kids)
  (hc : ∀ w1, Chg [] w w1 → ∀ k ∈ x.kids, Calls Tryz.prog 105 #[.pointer (some ⟨B, 0, none⟩), .int .i64 k] w1 fun e w' => e = .returned (.bool (M k)) ∧ Chg [] w1 w') :
  Calls Tryz.prog 155 #[.pointer (some ⟨B, 0, none⟩), .agg (x.cells a n c)] w fun e w' => e = .returned (.bool (x.kids.any M)) ∧ Chg [] w w' := by
 obtain ⟨R, hR⟩ : ∃ R, R = x.kids.any M := ⟨_, rfl⟩
 rw [← hR]
 have H := Lib.hid (And.intro hn (And.intro hz (And.intro hc hR)))
 clear hn hz hc hR
 unfold Nd.cells
 go_enter Tryz.func155, Tryz.ntmps155
 have hb := heap_alloc_same w (.cells #[.int .i64 x.k, .int .u64 x.c0, .int .u64 x.c1, .int .u64 x.c2, .int .u64 x.c3, .string x.s, .int .i64 x.r, .int .i64 x.l, .slice a n c] 65)
 obtain ⟨x0, x1, x2, x3, x4, x5, x6, x7, x8⟩ := cells9 hb
 clear hb
 go_wp2_with fail
 go_loopg [10] n (fun d iv wr => ∃ k : Nat, d = n - k ∧ k ≤ n ∧ iv = .int .i64 k ∧ Hid (Chg [] w wr ∧ ∀ j (h : j < k) (h' : j < x.kids.length), M x.kids[j] = false))
 case atStart => exact ⟨0, rfl, Nat.zero_le _, rfl, Lib.hid ⟨(Chg.refl _ _).alloc _, fun j h => by omega⟩⟩
 case round =>
  obtain ⟨k, rfl, hk, rfl, hin⟩ := hrel
  obtain ⟨wq, rfl⟩ : ∃ wq, wq = wr := ⟨_, rfl⟩
  by_cases hlt : k < n
  ·have hkx : k < x.kids.length := by have := H.out.1; omega
   obtain ⟨bx, ox, rfl, hx⟩ := H.out.2.1 k hkx
   have hx := hin.out.1.kp.2 _ _ hx
   obtain ⟨z, hzx⟩ : ∃ z, z = x.kids[k] := ⟨_, rfl⟩
   rw [← hzx] at hx
   obtain ⟨r, hr⟩ : ∃ r, r = M z := ⟨_, rfl⟩
   have hcall := H.out.2.2.1 wq hin.out.1 z (by rw [hzx]; exact List.getElem_mem hkx)
   rw [← hr] at hcall
   have HZ := Lib.hid (And.intro hzx (And.intro hr hcall))
   clear hzx hr hcall
   go_wp2_with fail
   refine HZ.out.2.2.mono ?_
   rintro e w3 ⟨rfl, hc3⟩
   have H3 := Lib.hid (hin.out.1.tr hc3)
   clear hc3
   cases r with
   | true =>
    go_wp2
    go_ret
    refine ⟨ret_bool ?_, H3.out⟩
    rw [H.out.2.2.2, eq_comm, List.any_eq_true]
    refine ⟨_, List.getElem_mem hkx, ?_⟩
    rw [← HZ.out.1, ← HZ.out.2.1]
   | false =>
    go_wp2
    go_roundg (n - (k + 1))
    case measure => omega
    case rel =>
     refine ⟨k + 1, rfl, by omega, by go_num, Lib.hid ⟨H3.out, fun j h h' => ?_⟩⟩
     by_cases hj : j = k
     ·subst hj; rw [← HZ.out.1, ← HZ.out.2.1]
     ·exact hin.out.2 j (by omega) h'
  ·obtain rfl : k = n := by omega
   go_wp2
   go_ret
   refine ⟨ret_bool ?_, hin.out.1⟩
   rw [H.out.2.2.2, eq_comm]
   refine Bool.eq_false_iff.2 (fun h => ?_)
   rw [List.any_eq_true] at h
   obtain ⟨z, hz, h1⟩ := h
   obtain ⟨j, hj, rfl⟩ := List.mem_iff_getElem.1 hz
   rw [hin.out.2 j (by have := H.out.1; omega) hj] at h1
   cases h1

set_option maxRecDepth 100000 in
set_option maxHeartbeats 2000000 in
theorem called_any (w : World) (B R m : Nat) (a1 : Option Addr) (n1 c1 : Nat) (a2 : Option Addr) (n2 c2 : Nat) (g : Gr) (rs : List Int) (x : Nd) (a : Option Addr) (n c : Nat) (hw : WorkAt w B R m a1 n1 c1 a2 n2 c2 g rs) (hx : 0 ≤ x.r ∧ x.r < n1) :
  Calls Tryz.prog 156 #[.pointer (some ⟨B, 0, none⟩), .agg (x.cells a n c)] w fun e w' => e = .returned (.bool (callsL rs x.r)) ∧ Chg [] w w' := by
 obtain ⟨q, hq⟩ : ∃ q : Nat, x.r = q := ⟨x.r.toNat, by omega⟩
 have hql : q < rs.length := by have := hw.len; omega
 obtain ⟨z, hz⟩ : ∃ z, z = rs[q] := ⟨_, rfl⟩
 have hcell := (row_cell hw.row (i := q) (x := z) (by rw [hz]; exact List.getElem?_eq_getElem hql))
 have e : callsL rs x.r = decide (0 < z) := by
  simp [callsL, hq, List.getElem?_eq_getElem hql, hz]
 rw [e]
 unfold Nd.cells
 rw [hq]
 have hcell := Lib.cell?_alloc_some (.cells #[.int .i64 x.k, .int .u64 x.c0, .int .u64 x.c1, .int .u64 x.c2, .int .u64 x.c3, .string x.s, .int .i64 q, .int .i64 x.l, .slice a n c] 65) hcell
 have hbx := heap_alloc_lt hw.box (.cells #[.int .i64 x.k, .int .u64 x.c0, .int .u64 x.c1, .int .u64 x.c2, .int .u64 x.c3, .string x.s, .int .i64 q, .int .i64 x.l, .slice a n c] 65)
 have hb := heap_alloc_same w (.cells #[.int .i64 x.k, .int .u64 x.c0, .int .u64 x.c1, .int .u64 x.c2, .int .u64 x.c3, .string x.s, .int .i64 q, .int .i64 x.l, .slice a n c] 65)
 obtain ⟨x0, x1, x2, x3, x4, x5, x6, x7, x8⟩ := cells9 hb
 have y2 := cell_of_cells hbx 2
 simp at y2
 have hqn : q < n1 := by omega
 clear hb hbx hw hz e
 go_enter Tryz.func156, Tryz.ntmps156
 go_wp2_with fail
 go_region
 all_goals go_wp2
 all_goals go_ret
 all_goals exact ⟨rfl, ((Chg.refl _ _).alloc _).drew⟩
end Go.Proofs.YtlklmpjakeedcaaGreatDoor
set_option linter.unusedVariables false
set_option linter.unusedSimpArgs false
namespace Go.Proofs.YtlklmpjakeedcaaGreatDoor
open Go.RowKit Go.MapKept Go.Shelf

set_option maxRecDepth 100000 in
set_option maxHeartbeats 4000000 in
theorem may_some (w : World) (B R m : Nat) (a1 : Option Addr) (n1 c1 : Nat) (a2 : Option Addr) (n2 c2 : Nat) (g : Gr) (rs : List Int) (hw : WorkAt w B R m a1 n1 c1 a2 n2 c2 g rs) (n : Nat) (hn : n < g.nodes.length) (f : Nat) (b : Bool) (hf : waysM g.nodes[n].k = some (shapeF f))
  (hc : ∀ w1, Chg [] w w1 → ∀ ak nk ck, nk = g.nodes[n].kids.length → nk ≤ ck → ck ≤ maxLen → Ints w1 ak g.nodes[n].kids → Calls Tryz.prog f #[.pointer (some ⟨B, 0, none⟩), .agg (g.nodes[n].cells ak nk ck)] w1 fun e w' => e = .returned (.bool b) ∧ Chg [] w1 w')
  (eg : ∀ args w, (callFunc f args).run Tryz.prog w = .ok (.enter f args) w) :
  Calls Tryz.prog 105 #[.pointer (some ⟨B, 0, none⟩), .int .i64 n] w fun e w' => e = .returned (.bool b) ∧ Chg [] w w' := by
 obtain ⟨lk, hlk⟩ := kindKey g.nodes[n].k (hw.gram.wf.nodes _ (List.getElem_mem hn)).k
 obtain ⟨bn, o, ak, nk, ck, hae, hx⟩ := hw.gram.nodes n hn
 have hl := (hw.ways.chg (w' := w.drew) ((Chg.refl [] w).drew) (by simp)).look kind_inj Tryz.keyedKind Tryz.underlying193 (z := .nilFunc) rfl hlk false
 rw [hf] at hl
 simp only [Bool.false_eq_true, if_false, Option.getD_some, shapeF] at hl
 have hbx := hw.box
 have y0 := cell_of_cells hbx 0
 have y1 := cell_of_cells hbx 1
 have y3 := cell_of_cells hbx 3
 simp at y0 y1 y3
 have hn2 : n < n2 := by have := hw.gram.e2; omega
 have hs2 := hw.gram.small.2
 have hcall := hc
 obtain ⟨x, hxe⟩ : ∃ x, x = g.nodes[n] := ⟨_, rfl⟩
 rw [← hxe] at hx hl hcall
 obtain ⟨h0, h1, h2, h3, h4, h5, h6, h7, h8, q1, q2, q3, q4⟩ := hx
 have H := Lib.hid (And.intro hcall (And.intro q1 (And.intro q2 (And.intro q3 q4))))
 clear hc hcall hw hf hlk hxe hbx q1 q2 q3 q4
 subst hae
 go_enter Tryz.func105, Tryz.ntmps105
 go_wp2_with fail
 go_region
 all_goals clear hl
 all_goals have hnq := fun (w : World) => neq_func Tryz.underlying200 w (.func f) #[] #[]
 all_goals go_wp2_with fail
 all_goals have hq := H.out.1 w.drew (Chg.refl _ _).drew ak nk ck H.out.2.1 H.out.2.2.1 H.out.2.2.2.1 (H.out.2.2.2.2.keep ((Chg.refl [] _).drew).kp)
 all_goals unfold Nd.cells at hq
 all_goals refine hq.mono ?_
 all_goals rintro e w3 ⟨rfl, hc3⟩
 all_goals have H3 := Lib.hid hc3
 all_goals clear hc3
 all_goals go_wp2
 all_goals go_ret
 all_goals exact ⟨rfl, (Chg.refl _ _).drew.tr H3.out⟩

set_option maxRecDepth 100000 in
set_option maxHeartbeats 4000000 in
theorem may_none (w : World) (B R m : Nat) (a1 : Option Addr) (n1 c1 : Nat) (a2 : Option Addr) (n2 c2 : Nat) (g : Gr) (rs : List Int) (hw : WorkAt w B R m a1 n1 c1 a2 n2 c2 g rs) (n : Nat) (hn : n < g.nodes.length) (hf : waysM g.nodes[n].k = none) :
  Calls Tryz.prog 105 #[.pointer (some ⟨B, 0, none⟩), .int .i64 n] w fun e w' => e = .returned (.bool false) ∧ Chg [] w w' := by
 obtain ⟨lk, hlk⟩ := kindKey g.nodes[n].k (hw.gram.wf.nodes _ (List.getElem_mem hn)).k
 obtain ⟨bn, o, ak, nk, ck, hae, hx⟩ := hw.gram.nodes n hn
 have hl := (hw.ways.chg (w' := w.drew) ((Chg.refl [] w).drew) (by simp)).look kind_inj Tryz.keyedKind Tryz.underlying193 (z := .nilFunc) rfl hlk false
 rw [hf] at hl
 simp only [Bool.false_eq_true, if_false, Option.getD_none] at hl
 have hbx := hw.box
 have y0 := cell_of_cells hbx 0
 have y1 := cell_of_cells hbx 1
 have y3 := cell_of_cells hbx 3
 simp at y0 y1 y3
 have hn2 : n < n2 := by have := hw.gram.e2; omega
 have hs2 := hw.gram.small.2
 obtain ⟨x, hxe⟩ : ∃ x, x = g.nodes[n] := ⟨_, rfl⟩
 rw [← hxe] at hx hl
 obtain ⟨h0, h1, h2, h3, h4, h5, h6, h7, h8, q1, q2, q3, q4⟩ := hx
 clear hw hf hlk hxe hbx q1 q2 q3 q4
 subst hae
 go_enter Tryz.func105, Tryz.ntmps105
 go_wp2_with fail
 go_region
 all_goals clear hl
 all_goals have hnq := fun (w : World) => neq_func_nil Tryz.underlying200 w
 all_goals go_wp2
 all_goals go_ret
 all_goals exact ⟨rfl, (Chg.refl _ _).drew⟩

/-- THE NODE. -/
theorem may_any (B R m : Nat) (a1 : Option Addr) (n1 c1 : Nat) (a2 : Option Addr) (n2 c2 : Nat) (g : Gr) (rs : List Int) (hf : Falls g.nodes) (hq : ∀ x ∈ g.nodes, x.k = 5 → 0 ≤ x.r ∧ x.r < n1) :
  ∀ (d n : Nat), g.nodes.length - n ≤ d → n < g.nodes.length → ∀ w, WorkAt w B R m a1 n1 c1 a2 n2 c2 g rs →
  Calls Tryz.prog 105 #[.pointer (some ⟨B, 0, none⟩), .int .i64 n] w fun e w' => e = .returned (.bool (mayN g.nodes (callsL rs) n)) ∧ Chg [] w w' := by
 intro d
 induction d with
 | zero => intro n h1 h2; omega
 | succ d ih =>
  intro n hd hn w hw
  rw [mayN_eq hf _ hn]
  have key : ∀ (w1 : World), Chg [] w w1 → ∀ k ∈ g.nodes[n].kids, Calls Tryz.prog 105 #[.pointer (some ⟨B, 0, none⟩), .int .i64 k] w1 fun e w' => e = .returned (.bool (mayN g.nodes (callsL rs) k)) ∧ Chg [] w1 w' := by
   intro w1 h1 k hk
   obtain ⟨k1, k2⟩ := hf n hn k hk
   obtain ⟨j, rfl⟩ : ∃ j : Nat, k = j := ⟨k.toNat, by omega⟩
   exact ih j (by omega) (by omega) w1 (hw.chg h1)
  have hmax : maxLen ≤ 9223372036854775807 := by simp [maxLen]
  unfold kindMay easyK
  by_cases e1 : g.nodes[n].k = 1 ∨ g.nodes[n].k = 8 ∨ g.nodes[n].k = 10 ∨ g.nodes[n].k = 11 ∨ g.nodes[n].k = 12
  ·rw [decide_eq_true e1, if_pos rfl]
   exact may_some w B R m a1 n1 c1 a2 n2 c2 g rs hw n hn 153 _ (by unfold waysM; rw [if_pos e1]) (fun w1 h1 ak nk ck _ _ _ _ => always_any w1 _ _ ak nk ck) (enters_of Tryz.func153 (by kernel_rfl) rfl)
  rw [decide_eq_false e1, if_neg (by simp)]
  by_cases e2 : g.nodes[n].k = 6 ∨ g.nodes[n].k = 9
  ·rw [if_pos e2]
   exact may_some w B R m a1 n1 c1 a2 n2 c2 g rs hw n hn 154 _ (by unfold waysM; rw [if_neg e1, if_pos e2]) (fun w1 h1 ak nk ck q1 q2 q3 q4 => every_any w1 B _ ak nk ck _ q1 (by omega) q4 (fun w2 h2 => key w2 (h1.tr h2))) (enters_of Tryz.func154 (by kernel_rfl) rfl)
  rw [if_neg e2]
  by_cases e3 : g.nodes[n].k = 7
  ·rw [if_pos e3]
   exact may_some w B R m a1 n1 c1 a2 n2 c2 g rs hw n hn 155 _ (by unfold waysM; rw [if_neg e1, if_neg e2, if_pos e3]) (fun w1 h1 ak nk ck q1 q2 q3 q4 => some_any w1 B _ ak nk ck _ q1 (by omega) q4 (fun w2 h2 => key w2 (h1.tr h2))) (enters_of Tryz.func155 (by kernel_rfl) rfl)
  rw [if_neg e3]
  by_cases e4 : g.nodes[n].k = 5
  ·rw [if_pos e4]
   exact may_some w B R m a1 n1 c1 a2 n2 c2 g rs hw n hn 156 _ (by unfold waysM; rw [if_neg e1, if_neg e2, if_neg e3, if_pos e4]) (fun w1 h1 ak nk ck q1 q2 q3 q4 => called_any w1 B R m a1 n1 c1 a2 n2 c2 g rs _ ak nk ck (hw.chg h1) (hq _ (List.getElem_mem hn) e4)) (enters_of Tryz.func156 (by kernel_rfl) rfl)
  rw [if_neg e4]
  exact may_none w B R m a1 n1 c1 a2 n2 c2 g rs hw n hn (by unfold waysM; rw [if_neg e1, if_neg e2, if_neg e3, if_neg e4])
end Go.Proofs.YtlklmpjakeedcaaGreatDoor

/-
  Names: the walks of the program's test and of the document's.
  Conditions: the text is no longer than a slice can be.
-/
import Derived.Test.YtlklmpjakeedcaaGreatDoorSTlGName
import Derived.Lib.Strings
import Derived.Test.YtlklmpjakeedcaaGreatDoorSTlGNode
import Derived.Test.YtlklmpjakeedcaaGreatDoorSTlGWhole
import Derived.Laws.AppendOwnNone
set_option linter.unusedVariables false
set_option linter.unusedSimpArgs false
namespace Go.Proofs.YtlklmpjakeedcaaGreatDoor
open Go.RowKit Go.MapKept Go.Proofs Go.Lib

theorem nameB_iff (s : ByteArray) : nameB s = true ↔ 1 ≤ s.size ∧ s.size ≤ 32 ∧ ∀ j (h : j < s.size), (letterB s[j] || (decide (j ≠ 0) && digitB s[j])) = true := by
  by_cases h0 : s.size = 0
  · rw [name_empty h0]
    exact ⟨fun h => (by cases h), fun h => (by omega)⟩
  · have hl : s.data.toList.length = s.size := by first | (simp; done) | (simp; rfl)
    unfold nameB
    cases hd : s.data.toList with
    | nil => rw [hd] at hl; simp at hl; omega
    | cons c r =>
      have hg : ∀ j (hj : j < s.size), s[j] = (c :: r)[j]'(by rw [← hd, hl]; exact hj) := by
        intro j hj
        have : s[j] = s.data[j] := rfl
        rw [this, ← Array.getElem_toList]
        simp only [hd]
      rw [hd] at hl
      simp only [List.length_cons] at hl
      simp only [nameL, Bool.and_eq_true, decide_eq_true_eq, List.all_eq_true]
      constructor
      · rintro ⟨⟨h1, h2⟩, h3⟩
        refine ⟨by omega, by omega, fun j hj => ?_⟩
        rw [hg j hj]
        cases j with
        | zero => simp [h1]
        | succ j => simpa using h2 _ (List.getElem_mem (by first | omega | (simp; omega)))
      · rintro ⟨h1, h2, h3⟩
        refine ⟨⟨?_, fun x hx => ?_⟩, by omega⟩
        · have := h3 0 (by omega)
          rw [hg 0 (by omega)] at this
          simpa using this
        · obtain ⟨j, hj, rfl⟩ := List.mem_iff_getElem.1 hx
          have := h3 (j + 1) (by omega)
          rw [hg _ (by omega)] at this
          simpa using this
def okAt (s : ByteArray) (j : Nat) (h : j < s.size) : Bool := letterB s[j] || (decide (j ≠ 0) && digitB s[j])
theorem okAt_eq (s : ByteArray) (k : Nat) (h : k < s.size) : okAt s k h = decide (((97 ≤ s[k].toNat ∧ s[k].toNat ≤ 122) ∨ (65 ≤ s[k].toNat ∧ s[k].toNat ≤ 90) ∨ s[k].toNat = 95) ∨ (k ≠ 0 ∧ 48 ≤ s[k].toNat ∧ s[k].toNat ≤ 57)) := by
  unfold okAt
  rw [letterB_R, digitB_R]
  unfold letR
  rw [Bool.eq_iff_iff]
  simp only [Bool.or_eq_true, Bool.and_eq_true, decide_eq_true_eq]
  omega
theorem name_bad {s : ByteArray} {k : Nat} {h : k < s.size} (hb : okAt s k h = false) : false = nameB s := by
  cases hn : nameB s with
  | false => rfl
  | true => have := ((nameB_iff s).1 hn).2.2 k h; unfold okAt at hb; rw [hb] at this; cases this

set_option maxRecDepth 100000 in
set_option maxHeartbeats 1000000 in
theorem refName_any (s : ByteArray) (w : World) (hs : s.size ≤ maxLen) : Calls Tryz.prog 161 #[.string s] w fun e w' => e = .returned (.bool (nameB s)) ∧ Chg [] w w' := by
  unfold maxLen at hs
  go_enter Tryz.func161, Tryz.ntmps161
  go_wp2_with fail
  go_loop [3] (fun iv => ∃ k : Nat, k ≤ s.size ∧ iv = .int .i64 k ∧ Hid (∀ j (h : j < s.size), j < k → okAt s j h = true)) (fun iv => s.size - (intOf iv).toNat)
  case atStart => exact ⟨0, Nat.zero_le _, rfl, Lib.hid (fun j _ h => by omega)⟩
  case round =>
    obtain ⟨k, hk, rfl, hb⟩ := hrel
    by_cases hlt : k < s.size
    · have hx := s[k].toNat_lt
      have HK := Lib.hid (okAt_eq s k hlt)
      have hcase : s[k].toNat < 48 ∨ (48 ≤ s[k].toNat ∧ s[k].toNat ≤ 57 ∧ k = 0) ∨ (48 ≤ s[k].toNat ∧ s[k].toNat ≤ 57 ∧ 0 < k) ∨ (57 < s[k].toNat ∧ s[k].toNat < 65) ∨ (65 ≤ s[k].toNat ∧ s[k].toNat ≤ 90) ∨ (90 < s[k].toNat ∧ s[k].toNat < 95) ∨ s[k].toNat = 95 ∨ (95 < s[k].toNat ∧ s[k].toNat < 97) ∨ (97 ≤ s[k].toNat ∧ s[k].toNat ≤ 122) ∨ 122 < s[k].toNat := by omega
      have hk0 : ((k : Int) == 0) = decide (k = 0) := by
        rw [Bool.eq_iff_iff]; simp
      have h95 : (((s[k].toNat : Int)) == 95) = decide (s[k].toNat = 95) := by
        rw [Bool.eq_iff_iff]; simp; omega
      have q122 : decide ((s[k].toNat : Int) ≤ 122) = decide (s[k].toNat ≤ 122) := by rw [Bool.eq_iff_iff]; simp; omega
      have q48 : decide ((s[k].toNat : Int) < 48) = decide (s[k].toNat < 48) := by rw [Bool.eq_iff_iff]; simp; omega
      have q57 : decide (57 < (s[k].toNat : Int)) = decide (57 < s[k].toNat) := by rw [Bool.eq_iff_iff]; simp; omega
      have q90 : decide ((s[k].toNat : Int) ≤ 90) = decide (s[k].toNat ≤ 90) := by rw [Bool.eq_iff_iff]; simp; omega
      rcases hcase with h | ⟨h, h', h''⟩ | ⟨h, h', h''⟩ | ⟨h, h'⟩ | ⟨h, h'⟩ | ⟨h, h'⟩ | h | ⟨h, h'⟩ | ⟨h, h'⟩ | h
      all_goals
        first
        | (rw [show decide (s[k].toNat = 95) = false from by simp; omega] at h95)
        | (rw [show decide (s[k].toNat = 95) = true from by simp; omega] at h95)
        | skip
      all_goals
        first
        | (rw [show decide (s[k].toNat < 48) = false from by simp; omega] at q48)
        | (rw [show decide (s[k].toNat < 48) = true from by simp; omega] at q48)
      all_goals
        first
        | (rw [show decide (57 < s[k].toNat) = false from by simp; omega] at q57)
        | (rw [show decide (57 < s[k].toNat) = true from by simp; omega] at q57)
      all_goals
        first
        | (rw [show decide (s[k].toNat ≤ 122) = false from by simp; omega] at q122)
        | (rw [show decide (s[k].toNat ≤ 122) = true from by simp; omega] at q122)
      all_goals
        first
        | (rw [show decide (s[k].toNat ≤ 90) = false from by simp; omega] at q90)
        | (rw [show decide (s[k].toNat ≤ 90) = true from by simp; omega] at q90)
      all_goals
        first
        | (rw [show decide (k = 0) = false from by simp; omega] at hk0)
        | (rw [show decide (k = 0) = true from by simp; omega] at hk0)
        | skip
      all_goals try (have H00 := Lib.hid h''; clear h'')
      all_goals
        go_wp2
        all_goals first
        | (go_ret
           exact ⟨ret_bool (name_bad (k := k) (h := hlt) (by rw [HK.out]; simp; first | omega | (have := H00.out; omega))), Chg.refl _ _⟩)
        | (go_round
           case rel => exact ⟨k + 1, by omega, by go_num, Lib.hid (fun j hh hj => by
             by_cases e : j = k
             · subst e; rw [HK.out]; simp; first | omega | (have := H00.out; omega)
             · exact hb.out j hh (by omega))⟩
           case measure => simp [intOf]; omega)
        | (go_ret
           exact ⟨ret_bool (name_bad (k := k) (h := hlt) (by rw [HK.out]; simp; first | omega | (have := H00.out; omega))), Chg.refl _ _⟩)
    · obtain rfl : k = s.size := by omega
      go_wp2
      all_goals go_ret
      all_goals refine ⟨ret_bool ?_, Chg.refl _ _⟩
      all_goals have hall := hb.out
      all_goals rw [Bool.eq_iff_iff, nameB_iff]
      all_goals constructor
      all_goals intro h
      all_goals first
        | (simp at h; exact ⟨by omega, by omega, fun j hj => hall j hj hj⟩)
        | (obtain ⟨h1, h2, _⟩ := h; simp; omega)
        | (obtain ⟨h1, h2, _⟩ := h; exfalso; omega)
        | (cases h)
end Go.Proofs.YtlklmpjakeedcaaGreatDoor
set_option linter.unusedVariables false
set_option linter.unusedSimpArgs false
namespace Go.Proofs.YtlklmpjakeedcaaGreatDoor
open Go.RowKit Go.MapKept

theorem toList_nil_iff (s : ByteArray) : s.toList = [] ↔ s.size = 0 := by
  rw [Lib.toList_data]
  constructor
  · intro h
    have := congrArg List.length h
    simpa using this
  · intro h
    exact List.eq_nil_of_length_eq_zero (by simpa using h)
theorem toList_none : (⟨#[]⟩ : ByteArray).toList = [] := (toList_nil_iff _).2 rfl
theorem size_pos_iff (s : ByteArray) : 0 < s.size ↔ ¬ s.toList = [] := by rw [toList_nil_iff]; omega
theorem nodeN_or {k c0 c1 c2 c3 r l q : Int} {s : ByteArray} {n : Nat} : nodeN k c0 c1 c2 c3 r l q s n =
    if k = 1 ∨ k = 2 then decide ((c0 = 0 ∧ c1 = 0 ∧ c2 = 0 ∧ c3 = 0) ∧ s.toList = [] ∧ r = 0 ∧ l = 0 ∧ n = 0)
    else if k = 3 then decide (¬ (c0 = 0 ∧ c1 = 0 ∧ c2 = 0 ∧ c3 = 0) ∧ s.toList = [] ∧ r = 0 ∧ l = 0 ∧ n = 0)
    else if k = 4 then decide ((c0 = 0 ∧ c1 = 0 ∧ c2 = 0 ∧ c3 = 0) ∧ ¬ s.toList = [] ∧ s.size ≤ 64 ∧ r = 0 ∧ l = 0 ∧ n = 0)
    else if k = 5 then decide ((c0 = 0 ∧ c1 = 0 ∧ c2 = 0 ∧ c3 = 0) ∧ s.toList = [] ∧ 0 ≤ r ∧ r < q ∧ 0 ≤ l ∧ l ≤ 99 ∧ n = 0)
    else if k = 6 ∨ k = 7 then decide ((c0 = 0 ∧ c1 = 0 ∧ c2 = 0 ∧ c3 = 0) ∧ s.toList = [] ∧ r = 0 ∧ l = 0 ∧ 2 ≤ n ∧ n ≤ 64)
    else if 8 ≤ k ∧ k ≤ 12 then decide ((c0 = 0 ∧ c1 = 0 ∧ c2 = 0 ∧ c3 = 0) ∧ s.toList = [] ∧ r = 0 ∧ l = 0 ∧ n = 1)
    else false := by
  unfold nodeN bareB plainB
  simp only [toList_none, size_pos_iff]
  repeat' split
  all_goals first | rfl | (rw [Bool.eq_iff_iff]; simp; done) | (rw [Bool.eq_iff_iff]; simp; grind)

set_option maxRecDepth 100000 in
set_option maxHeartbeats 4000000 in
theorem refNode_any0 (w : World) (k c0 c1 c2 c3 l q : Int) (s : ByteArray) (a : Option Addr) (n m : Nat) :
    Calls Tryz.prog 160 #[.agg #[.int .i64 k, .int .u64 c0, .int .u64 c1, .int .u64 c2, .int .u64 c3, .string s, .int .i64 0, .int .i64 l, .slice a n m], .int .i64 q] w fun e w' =>
      e = .returned (.bool (nodeN k c0 c1 c2 c3 0 l q s n)) ∧ Chg [] w w' := by
  go_enter Tryz.func160, Tryz.ntmps160
  go_wp2_with fail
  go_quiet (fail)
  go_wp2_with fail
  all_goals go_ret
  all_goals refine ⟨ret_bool ?_, (((Chg.refl _ _).alloc _).alloc _).drewN _⟩
  all_goals rw [nodeN_or, Bool.eq_iff_iff]
  all_goals simp only [beq_iff_eq, beq_eq_false_iff_ne, ne_eq] at *
  all_goals grind
set_option maxRecDepth 100000 in
set_option maxHeartbeats 8000000 in
theorem refNode_any1 (w : World) (k c0 c1 c2 c3 r l q : Int) (s : ByteArray) (a : Option Addr) (n m : Nat) (hr : (r != 0) = true) :
    Calls Tryz.prog 160 #[.agg #[.int .i64 k, .int .u64 c0, .int .u64 c1, .int .u64 c2, .int .u64 c3, .string s, .int .i64 r, .int .i64 l, .slice a n m], .int .i64 q] w fun e w' =>
      e = .returned (.bool (nodeN k c0 c1 c2 c3 r l q s n)) ∧ Chg [] w w' := by
  go_enter Tryz.func160, Tryz.ntmps160
  go_wp2_with fail
  go_quiet (fail)
  go_wp2_with fail
  all_goals go_ret
  all_goals refine ⟨ret_bool ?_, (((Chg.refl _ _).alloc _).alloc _).drewN _⟩
  all_goals rw [nodeN_or, Bool.eq_iff_iff]
  all_goals simp only [beq_iff_eq, beq_eq_false_iff_ne, bne_iff_ne, ne_eq] at *
  all_goals grind
theorem refNode_any (w : World) (k c0 c1 c2 c3 r l q : Int) (s : ByteArray) (a : Option Addr) (n m : Nat) :
    Calls Tryz.prog 160 #[.agg #[.int .i64 k, .int .u64 c0, .int .u64 c1, .int .u64 c2, .int .u64 c3, .string s, .int .i64 r, .int .i64 l, .slice a n m], .int .i64 q] w fun e w' =>
      e = .returned (.bool (nodeN k c0 c1 c2 c3 r l q s n)) ∧ Chg [] w w' := by
  by_cases hr : r = 0
  · subst hr; exact refNode_any0 w k c0 c1 c2 c3 l q s a n m
  · exact refNode_any1 w k c0 c1 c2 c3 r l q s a n m (by simpa using hr)
end Go.Proofs.YtlklmpjakeedcaaGreatDoor
set_option linter.unusedVariables false
set_option linter.unusedSimpArgs false
namespace Go.Proofs.YtlklmpjakeedcaaGreatDoor
open Go.RowKit Go.MapKept Go.Shelf

set_option maxRecDepth 100000 in
set_option maxHeartbeats 1000000 in
theorem Right_any (w : World) (a1 : Option Addr) (n1 c1 : Nat) (a2 : Option Addr) (n2 c2 : Nat) (g : Gr) (hg : GramAt w a1 n1 c1 a2 n2 c2 g) :
    Calls Tryz.prog 14 #[.agg #[.slice a1 n1 c1, .slice a2 n2 c2]] w fun e w' => e = .returned (.bool (rightB g)) ∧ Chg [] w w' := by
  have HG := Lib.hid hg
  clear hg
  go_enter Tryz.func14, Tryz.ntmps14
  go_wp2_with fail
  refine (whole_any _ a1 n1 c1 a2 n2 c2 g (HG.out.keep ((Chg.refl [] _).alloc _).kp)).mono ?_
  rintro e w2 ⟨s1, m1, d1, s2, m2, d2, rfl, hc2, ht⟩
  have H2 := Lib.hid hc2
  clear hc2 ht
  go_wp2
  go_ret
  exact ⟨ret_bool (rightB_iff g).symm, (((Chg.refl _ _).alloc _).tr H2.out).alloc _⟩

end Go.Proofs.YtlklmpjakeedcaaGreatDoor
set_option linter.unusedVariables false
set_option linter.unusedSimpArgs false
namespace Go.Proofs.YtlklmpjakeedcaaGreatDoor
open Go.RowKit Go.MapKept Go.Shelf

def kidsSum (ns : List Nd) : Nat := (ns.map fun x => x.kids.length).sum
theorem kidsSum_snoc (ns : List Nd) (x : Nd) : kidsSum (ns ++ [x]) = kidsSum ns + x.kids.length := by simp [kidsSum]
theorem kidsSum_append (a b : List Nd) : kidsSum (a ++ b) = kidsSum a + kidsSum b := by simp [kidsSum]
theorem kidsSum_take_le (ns : List Nd) (k : Nat) : kidsSum (ns.take k) ≤ kidsSum ns := by
  have h : kidsSum ns = kidsSum (ns.take k) + kidsSum (ns.drop k) := by rw [← kidsSum_append, List.take_append_drop]
  omega
theorem kids_le_sum (ns : List Nd) (k : Nat) (hk : k < ns.length) : kidsSum (ns.take k) + ns[k].kids.length ≤ kidsSum ns := by
  have h1 := kidsSum_take_le ns (k + 1)
  rw [List.take_succ_eq_append_getElem hk, kidsSum_snoc] at h1
  exact h1
/-- As many rules, nodes, kids as are gone through, or fewer. -/
def smallG (g : Gr) : Prop := g.rules.length + g.nodes.length + kidsSum g.nodes ≤ 300
/-- What is told of how many there are: exact, if it is small; more, if it is not. -/
def SizePost (g : Gr) (w : World) (e : Ending) (w' : World) : Prop :=
  ∃ m : Int, e = .returned (.int .i64 m) ∧ (smallG g → m ≤ 300) ∧ (¬ smallG g → 300 < m) ∧ Chg [] w w'

def Reach (g : Gr) : Prop := g.rules.length ≤ 17592186044416 ∧ g.nodes.length ≤ 17592186044416 ∧ ∀ x ∈ g.nodes, x.kids.length ≤ 17592186044416

end Go.Proofs.YtlklmpjakeedcaaGreatDoor
set_option linter.unusedVariables false
set_option linter.unusedSimpArgs false
namespace Go.Proofs.YtlklmpjakeedcaaGreatDoor
open Go.RowKit Go.MapKept Go.Shelf

def nd0 (k : Int) (kids : List Int) : Nd := ⟨k, 0, 0, 0, 0, ⟨#[]⟩, 0, 0, kids⟩
def exG : Gr := ⟨[⟨⟨#[65]⟩, 0⟩], [nd0 7 [1, 4], nd0 6 [2, 3], ⟨4, 0, 0, 0, 0, ⟨#[97]⟩, 0, 0, []⟩, nd0 5 [], nd0 1 []]⟩
/-- The argument's box, as it was, in a later world. -/
structure GrBox (w : World) (B : Nat) (a1 : Option Addr) (n1 c1 : Nat) (a2 : Option Addr) (n2 c2 : Nat) (wr : World) : Prop where
  ch : Chg [] w wr
  box : wr.heap[B]? = some (.cells #[.slice a1 n1 c1, .slice a2 n2 c2] 31 (0, 0))
theorem GrBox.keep {w wr w' : World} {B : Nat} {a1 : Option Addr} {n1 c1 : Nat} {a2 : Option Addr} {n2 c2 : Nat} (h : GrBox w B a1 n1 c1 a2 n2 c2 wr) (hc : Chg [] wr w') : GrBox w B a1 n1 c1 a2 n2 c2 w' := ⟨h.ch.tr hc, hc.heap h.box (by simp)⟩
theorem GrBox.new (w : World) (a1 : Option Addr) (n1 c1 : Nat) (a2 : Option Addr) (n2 c2 : Nat) : GrBox w w.heap.size a1 n1 c1 a2 n2 c2 (w.alloc (.cells #[.slice a1 n1 c1, .slice a2 n2 c2] 31)) := ⟨(Chg.refl _ _).alloc _, heap_alloc_same w _⟩

def ExPost (w : World) (e : Ending) (w' : World) : Prop :=
  ∃ a1 a2, e = .returned (.agg #[.slice a1 1 1, .slice a2 5 5]) ∧ GramAt w' a1 1 1 a2 5 5 exG ∧ Chg [] w w'

end Go.Proofs.YtlklmpjakeedcaaGreatDoor
set_option linter.unusedVariables false
set_option linter.unusedSimpArgs false
namespace Go.Proofs.YtlklmpjakeedcaaGreatDoor
open Go.RowKit Go.MapKept Go.Shelf

theorem kidsAft_snoc {F : Nat → Option (Nat × Nat)} {k : Int} : ∀ {ks : List Int} {next high : Nat}, kidsAft F (ks ++ [k]) next high = match kidsAft F ks next high with | none => none | some (e, hh) => kidsAft F [k] e hh := by
  intro ks
  induction ks with
  | nil => intro next high; rfl
  | cons j ks ih =>
    intro next high
    simp only [List.cons_append, kidsAft]
    split
    · split
      · rfl
      · exact ih
    · rfl
theorem kidsAft_none {F : Nat → Option (Nat × Nat)} {l : List Int} : ∀ {ks : List Int} {next high : Nat}, kidsAft F ks next high = none → kidsAft F (ks ++ l) next high = none := by
  intro ks
  induction ks with
  | nil => intro next high h; cases h
  | cons j ks ih =>
    intro next high h
    simp only [List.cons_append, kidsAft] at h ⊢
    split
    · rename_i hj
      rw [if_pos hj] at h
      split
      · rfl
      · rename_i z hh he
        rw [he] at h
        exact ih h
    · rfl
def aftI (o : Option (Nat × Nat)) : Int × Int := match o with | none => (-1, 0) | some (e, h) => (e, h)
theorem aft_succ {ns : List Nd} {f n : Nat} (hn : n < ns.length) : aft ns (f + 1) n = kidsAft (aft ns f) ns[n].kids (n + 1) 1 := by
  rw [aft, List.getElem?_eq_getElem hn]

set_option maxRecDepth 100000 in
set_option maxHeartbeats 4000000 in
theorem after_any (a1 : Option Addr) (n1 c1 : Nat) (a2 : Option Addr) (n2 c2 : Nat) (g : Gr) (hb2 : n2 ≤ 17592186044416) : ∀ (f n : Nat) (w : World), GramAt w a1 n1 c1 a2 n2 c2 g → f ≤ 1000000 → n ≤ 17592186044416 →
    Calls Tryz.prog 163 #[.agg #[.slice a1 n1 c1, .slice a2 n2 c2], .int .i64 n, .int .i64 f] w fun e w' => e = .returned (.tuple #[.int .i64 (aftI (aft g.nodes f n)).1, .int .i64 (aftI (aft g.nodes f n)).2]) ∧ Chg [] w w' := by
  intro f
  induction f with
  | zero =>
    intro n w hg hf hn
    have HG := Lib.hid hg
    clear hg
    have he : (aftI (aft g.nodes 0 n)) = (-1, 0) := rfl
    rw [he]
    clear he
    by_cases hl : n < n2
    all_goals
      go_enter Tryz.func163, Tryz.ntmps163
      go_wp2_with fail
      go_ret2
      exact ⟨rfl, (Chg.refl _ _).alloc _⟩
  | succ f ih =>
    intro n w hg hf hn
    have HG := Lib.hid (And.intro hg ih)
    have hf' : f ≤ 1000000 := by omega
    by_cases hl : n < n2
    · have hnn : n < g.nodes.length := by have := hg.e2; omega
      have he := aft_succ (f := f) hnn
      obtain ⟨R, hR⟩ : ∃ R, R = aft g.nodes (f + 1) n := ⟨_, rfl⟩
      rw [← hR] at he ⊢
      obtain ⟨b, o, ak, nk, ck, rfl, hnode⟩ := hg.nodes n hnn
      have hkc := hnode.le
      have hkm := hnode.cap
      unfold maxLen at hkm
      have HX := Lib.hid hnode
      have HE := Lib.hid he
      clear hnode he hR hg ih
      go_enter Tryz.func163, Tryz.ntmps163
      go_wp2_with fail
      have HB := Lib.hid (GrBox.new w a1 n1 c1 (some ⟨b, o, none⟩) n2 c2)
      go_loopg [10, 8, 9] nk (fun d kv xv yv wr => ∃ k x y : Nat, d = nk - k ∧ k ≤ nk ∧ kv = .int .i64 k ∧ xv = .int .i64 x ∧ yv = .int .i64 y ∧ x ≤ n2 ∧ y ≤ n2 + 1 ∧ Hid (GrBox w w.heap.size a1 n1 c1 (some ⟨b, o, none⟩) n2 c2 wr ∧ kidsAft (aft g.nodes f) (g.nodes[n].kids.take k) (n + 1) 1 = some (x, y)))
      case atStart => exact ⟨0, n + 1, 1, rfl, Nat.zero_le _, rfl, by go_num, rfl, by omega, by omega, Lib.hid ⟨HB.out, rfl⟩⟩
      case round =>
        obtain ⟨k, x, y, rfl, hk, rfl, rfl, rfl, hx, hy, HK⟩ := hrel
        obtain ⟨x0, x1⟩ := cells2 HK.out.1.box
        have hlb := lt_of_block HK.out.1.box
        have hx2 := HX.out.keep HK.out.1.ch.kp
        have h8 := hx2.kids
        have hb8 := World.block_lt_of_cell? _ _ h8
        simp only at hb8
        by_cases hkl : k < nk
        · have hkk : k < g.nodes[n].kids.length := by have := HX.out.len; omega
          obtain ⟨bk, ok, rfl, hck⟩ := hx2.ints k hkk
          have hbk := World.block_lt_of_cell? _ _ hck
          simp only at hbk
          have hstep : kidsAft (aft g.nodes f) (g.nodes[n].kids.take (k + 1)) (n + 1) 1 = kidsAft (aft g.nodes f) [g.nodes[n].kids[k]] x y := by
            rw [List.take_succ_eq_append_getElem hkk, kidsAft_snoc, HK.out.2]
          have hwhole : kidsAft (aft g.nodes f) (g.nodes[n].kids.take (k + 1)) (n + 1) 1 = none → R = none := by
            intro h
            rw [HE.out, ← List.take_append_drop (k + 1) g.nodes[n].kids]
            exact kidsAft_none h
          obtain ⟨z, hzz⟩ : ∃ z, z = g.nodes[n].kids[k] := ⟨_, rfl⟩
          rw [← hzz] at hck hstep
          have HZ := Lib.hid (And.intro hstep hwhole)
          clear hx2 hstep hwhole hzz
          by_cases hz : z = (x : Int)
          · subst hz
            have qz : ((x : Int) != (x : Int)) = false := by simp
            go_wp2_with fail
            refine (HG.out.2 x _ (HG.out.1.keep HK.out.1.ch.kp) hf' (by omega)).mono ?_
            rintro e w5 ⟨rfl, hc⟩
            have HK5 := Lib.hid (HK.out.1.keep hc)
            clear hc x0 x1 hlb hck h8 hbk hb8
            cases hax : aft g.nodes f x with
            | none =>
              have hRn : R = none := HZ.out.2 (by rw [HZ.out.1]; simp only [kidsAft, if_true, hax])
              subst hRn
              clear hax
              simp only [aftI]
              go_wp2_with fail
              go_ret2
              exact ⟨rfl, HK5.out.ch⟩
            | some p =>
              obtain ⟨to, h⟩ := p
              have h1 := (aft_cover hax).1
              have h2 := aft_height hax
              have h3 := (aft_lt hax).1
              have hto : to ≤ n2 := by have := HG.out.1.e2; omega
              have hstep2 : kidsAft (aft g.nodes f) (g.nodes[n].kids.take (k + 1)) (n + 1) 1 = some (to, max y (1 + h)) := by
                rw [HZ.out.1]; simp only [kidsAft, if_true, hax]
              have HS := Lib.hid hstep2
              clear hax hstep2
              simp only [aftI]
              go_wp2_with fail
              go_roundg (nk - (k + 1))
              case measure => omega
              case rel => exact ⟨k + 1, to, max y (1 + h), rfl, by omega, by go_num, rfl, by congr 1; omega, hto, by omega, Lib.hid ⟨HK5.out, HS.out⟩⟩
          · have qz : (z != (x : Int)) = true := by simpa using hz
            have hRn : R = none := HZ.out.2 (by rw [HZ.out.1]; simp only [kidsAft, if_neg hz])
            subst hRn
            clear hz
            go_wp2_with fail
            go_ret2
            exact ⟨rfl, HK.out.1.ch⟩
        · obtain rfl : k = nk := by omega
          have hRs : R = some (x, y) := by
            rw [HE.out]
            have h1 := HK.out.2
            rw [HX.out.len, List.take_length] at h1
            exact h1
          subst hRs
          clear hx2
          go_wp2
          go_ret2
          exact ⟨rfl, HK.out.1.ch⟩
    · have he : aft g.nodes (f + 1) n = none := by
        rw [aft, List.getElem?_eq_none (by have := hg.e2; omega)]
      rw [he]
      clear he hg ih
      simp only [aftI]
      go_enter Tryz.func163, Tryz.ntmps163
      go_wp2_with fail
      go_ret2
      exact ⟨rfl, (Chg.refl _ _).alloc _⟩
end Go.Proofs.YtlklmpjakeedcaaGreatDoor
set_option linter.unusedVariables false
set_option linter.unusedSimpArgs false
namespace Go.Proofs.YtlklmpjakeedcaaGreatDoor
open Go.RowKit Go.MapKept Go.Shelf

theorem Tryz.infoRule : (Tryz.prog.info? 53).map (fun i => (i.zero, i.size, i.bytes)) = some (some (.agg #[.string ⟨#[]⟩, .int .i64 0]), 2, 24) := by kernel_rfl
theorem Tryz.infoNode : (Tryz.prog.info? 65).map (fun i => (i.zero, i.size, i.bytes)) = some (some (.agg #[.int .i64 0, .int .u64 0, .int .u64 0, .int .u64 0, .int .u64 0, .string ⟨#[]⟩, .int .i64 0, .int .i64 0, .slice none 0 0]), 9, 96) := by kernel_rfl

theorem ints_none {w : World} {zs : List Int} (h : Ints w none zs) : zs = [] := by
  cases zs with
  | nil => rfl
  | cons z zs => obtain ⟨b, o, h1, _⟩ := h 0 (by simp); cases h1
theorem ints_some {w : World} {b : Addr} {zs : List Int} (h : Ints w (some b) zs) : ∀ j u, (zs.map (Value.int .i64))[j]? = some u → w.cell? (b.add j) = some u := by
  intro j u hu
  rw [List.getElem?_map] at hu
  cases hz : zs[j]? with
  | none => rw [hz] at hu; cases hu
  | some z =>
    rw [hz] at hu
    simp only [Option.map_some, Option.some.injEq] at hu
    subst hu
    obtain ⟨hj, hzj⟩ := List.getElem?_eq_some_iff.1 hz
    obtain ⟨b', o, h1, h2⟩ := h j hj
    simp only [Option.some.injEq] at h1
    subst h1
    rw [Addr.add_lit, h2, hzj]
/-- An append of a nil list, whatever its room says. -/
theorem run_append_nil {P : Program} {w : World} (base : Nat) (t ty e : TypeId) (i : TypeInfo) (size : Nat) (c : Nat) (ht : P.underlying t = some (.slice e)) (hi : P.info? e = some i)
    (v : Value) (n : Nat) (xs : List Value) (hown : w.ownsRow base e size v n xs) :
    (Builtin.append_ #[t, t] ty #[v, .slice none 0 c]).run P w = .ok v w := by
  rcases hown.2 with ⟨rfl, rfl⟩ | ⟨g, cap, cur, rfl, _, _, hnc, _⟩
  · simp [Builtin.append_, run_underlying ht, sizeOf, typeInfo, hi, Builtin.lenOf, Builtin.firstCells]
  · simp [Builtin.append_, run_underlying ht, sizeOf, typeInfo, hi, Builtin.lenOf, Builtin.firstCells, hnc, storeCells]
theorem wpList_append_nil {P : Program} {w : World} {ops : Array Oper} {rest : List Oper} {o : Oper} {a : Act} {Q : Exit → Act → World → Prop} (hgd : o.guard = none) (s x : Operand) (t : TypeId)
    (ho : o.op = .call { callee := .builtin .append, args := #[s, x], argTypes := #[t, t] })
    (base : Nat) (e : TypeId) (i : TypeInfo) (size : Nat) (c : Nat) (ht : P.underlying t = some (.slice e)) (hi : P.info? e = some i)
    (v : Value) (n : Nat) (xs : List Value) (hs : a.eval s = v) (hown : w.ownsRow base e size v n xs) (hx : a.eval x = .slice none 0 c)
    (h : wpList P ops Q rest (a.put o.dst v) w) : wpList P ops Q (o :: rest) a w := by
  refine wpList_plain hgd fun K hK => ?_
  have hrun := run_append_nil (P := P) (w := w) base t o.type e i size c ht hi v n xs hown
  unfold Oper.wp
  simp [execOp, ho, resolve, invoke, builtin, hs, hx, hrun, Result.andThen]
  exact hK _ _ h
/-- A row of one's own, new, that holds numbers. -/
def NewInts (w : World) (zs : List Int) (e : Ending) (w' : World) : Prop :=
  ∃ a c, e = .returned (.slice a zs.length c) ∧ OwnInts w' (.slice a zs.length c) zs ∧ Chg [] w w'

end Go.Proofs.YtlklmpjakeedcaaGreatDoor
set_option linter.unusedVariables false
set_option linter.unusedSimpArgs false
namespace Go.Proofs.YtlklmpjakeedcaaGreatDoor
open Go.RowKit Go.MapKept Go.Shelf

theorem flat_len {α β : Type} (f : α → List β) (m : Nat) (hf : ∀ a, (f a).length = m) (l : List α) : (l.flatMap f).length = l.length * m := by
  induction l with
  | nil => simp
  | cons a l ih => simp [hf, ih, Nat.add_mul, Nat.add_comm]
theorem flat_get {α β : Type} (f : α → List β) (m : Nat) (hf : ∀ a, (f a).length = m) : ∀ (l : List α) (i r : Nat), r < m → (l.flatMap f)[i * m + r]? = l[i]?.bind fun a => (f a)[r]?
  | [], i, r, h => by simp
  | a :: l, 0, r, h => by
    simp only [List.flatMap_cons, Nat.zero_mul, Nat.zero_add, List.getElem?_cons_zero, Option.bind_some]
    rw [List.getElem?_append_left (by rw [hf]; exact h)]
  | a :: l, i + 1, r, h => by
    simp only [List.flatMap_cons, List.getElem?_cons_succ]
    rw [List.getElem?_append_right (by rw [hf, Nat.add_mul]; omega), hf, ← flat_get f m hf l i r h]
    congr 1
    rw [Nat.add_mul]
    omega

/-! ### Rules -/
def Rl.cells (r : Rl) : List Value := [.string r.name, .int .i64 r.body]
def rulesCells (rs : List Rl) : List Value := rs.flatMap Rl.cells
theorem rules_some {w : World} {b : Addr} {rs : List Rl} (h : Rules w (some b) rs) : ∀ j u, (rulesCells rs)[j]? = some u → w.cell? (b.add j) = some u := by
  intro j u hu
  have e : j = j / 2 * 2 + j % 2 := by omega
  rw [e, rulesCells, flat_get Rl.cells 2 (fun _ => rfl) rs _ _ (Nat.mod_lt _ (by decide))] at hu
  cases hr : rs[j / 2]? with
  | none => rw [hr] at hu; cases hu
  | some r =>
    rw [hr] at hu
    simp only [Option.bind_some] at hu
    obtain ⟨hj, hzj⟩ := List.getElem?_eq_some_iff.1 hr
    obtain ⟨b', o, h1, h2, h3⟩ := h (j / 2) hj
    simp only [Option.some.injEq] at h1
    subst h1
    rw [hzj] at h2 h3
    rw [Addr.add_lit]
    rcases (show j % 2 = 0 ∨ j % 2 = 1 by omega) with h0 | h0
    · rw [h0] at hu
      rw [show o + j = o + j / 2 * 2 by omega, h2]
      exact hu
    · rw [h0] at hu
      rw [show o + j = o + j / 2 * 2 + 1 by omega, h3]
      exact hu
theorem rules_none {w : World} {rs : List Rl} (h : Rules w none rs) : rs = [] := by
  cases rs with
  | nil => rfl
  | cons z zs => obtain ⟨b, o, h1, _⟩ := h 0 (by simp); cases h1
theorem rulesCells_len (rs : List Rl) : (rulesCells rs).length = rs.length * 2 := flat_len Rl.cells 2 (fun _ => rfl) rs
theorem rules_row {w : World} {a : Option Addr} {n c : Nat} {rs : List Rl} (h : w.ownsRow 0 53 2 (.slice a n c) rs.length (rulesCells rs)) : Rules w a rs ∧ n = rs.length ∧ n ≤ c ∧ c ≤ maxLen := by
  rcases h.2 with ⟨h0, h1⟩ | ⟨g, cap, cur, h0, hb, hg, hn, hc, hs, ht⟩
  · cases h0
    obtain rfl := List.eq_nil_of_length_eq_zero h1
    exact ⟨(fun i hi => by cases hi), rfl, Nat.le_refl _, Nat.zero_le _⟩
  · cases h0
    have key : ∀ (j : Nat) (u : Value), (rulesCells rs)[j]? = some u → cur[j]? = some u := by
      intro j u hu
      rw [← ht, List.getElem?_take] at hu
      split at hu
      · simpa using hu
      · cases hu
    refine ⟨fun i hi => ⟨g, 0, rfl, ?_, ?_⟩, rfl, hn, hc⟩
    · rw [Nat.zero_add, cell_of_cells hg]
      refine key _ _ ?_
      have := flat_get Rl.cells 2 (fun _ => rfl) rs i 0 (by decide)
      rw [Nat.add_zero] at this
      rw [rulesCells, this]
      simp [Rl.cells, hi]
    · rw [Nat.zero_add, cell_of_cells hg]
      refine key _ _ ?_
      rw [rulesCells, flat_get Rl.cells 2 (fun _ => rfl) rs i 1 (by decide)]
      simp [Rl.cells, hi]

/-- A list of rules, new. -/
def NewRules (w : World) (rs : List Rl) (e : Ending) (w' : World) : Prop :=
  ∃ a c, e = .returned (.slice a rs.length c) ∧ Rules w' a rs ∧ rs.length ≤ c ∧ c ≤ maxLen ∧ Chg [] w w'

/-! ### One node -/
theorem nine_set {w : World} {b : Nat} {v0 v1 v2 v3 v4 v5 v6 v7 v8 : Value} {t : TypeId} {m : Nat × Nat} (h : w.heap[b]? = some (.cells #[v0, v1, v2, v3, v4, v5, v6, v7, v8] t m)) (u0 u1 u2 u3 u4 u5 u6 u7 u8 : Value) :
    ∃ w', w' = (((((((((w.setCell ⟨b, 0, none⟩ u0).setCell ⟨b, 1, none⟩ u1).setCell ⟨b, 2, none⟩ u2).setCell ⟨b, 3, none⟩ u3).setCell ⟨b, 4, none⟩ u4).setCell ⟨b, 5, none⟩ u5).setCell ⟨b, 6, none⟩ u6).setCell ⟨b, 7, none⟩ u7).setCell ⟨b, 8, none⟩ u8) ∧ w'.heap[b]? = some (.cells #[u0, u1, u2, u3, u4, u5, u6, u7, u8] t m) ∧ Chg [b] w w' := by
  refine ⟨_, rfl, ?_, ?_⟩
  · have z1 := heap_setCell_same h 0 u0
    have z2 := heap_setCell_same z1 1 u1
    have z3 := heap_setCell_same z2 2 u2
    have z4 := heap_setCell_same z3 3 u3
    have z5 := heap_setCell_same z4 4 u4
    have z6 := heap_setCell_same z5 5 u5
    have z7 := heap_setCell_same z6 6 u6
    have z8 := heap_setCell_same z7 7 u7
    have z9 := heap_setCell_same z8 8 u8
    rw [z9]
    simp
  · exact (((((((((Chg.refl [b] w).setCell (p := ⟨b, 0, none⟩) (.inl (by simp)) u0).setCell (p := ⟨b, 1, none⟩) (.inl (by simp)) u1).setCell (p := ⟨b, 2, none⟩) (.inl (by simp)) u2).setCell (p := ⟨b, 3, none⟩) (.inl (by simp)) u3).setCell (p := ⟨b, 4, none⟩) (.inl (by simp)) u4).setCell (p := ⟨b, 5, none⟩) (.inl (by simp)) u5).setCell (p := ⟨b, 6, none⟩) (.inl (by simp)) u6).setCell (p := ⟨b, 7, none⟩) (.inl (by simp)) u7).setCell (p := ⟨b, 8, none⟩) (.inl (by simp)) u8
def NewNode (w : World) (x : Nd) (e : Ending) (w' : World) : Prop :=
  ∃ a c, e = .returned (.agg (x.cells a x.kids.length c)) ∧ OwnInts w' (.slice a x.kids.length c) x.kids ∧ Chg [] w w'

end Go.Proofs.YtlklmpjakeedcaaGreatDoor
set_option linter.unusedVariables false
set_option linter.unusedSimpArgs false
namespace Go.Proofs.YtlklmpjakeedcaaGreatDoor
open Go.RowKit Go.MapKept Go.Shelf

abbrev Cp := Nd × Option Addr × Nat
def Cp.cells (p : Cp) : List Value := (p.1.cells p.2.1 p.1.kids.length p.2.2).toList
def nodesCells (L : List Cp) : List Value := L.flatMap Cp.cells
theorem cp_len (p : Cp) : p.cells.length = 9 := rfl
theorem row_notrow {w : World} {base e e' size n k : Nat} {v : Value} {xs : List Value} (h : w.ownsRow base e size v n xs) (hv : v.ownBlock = some k) (ht : e ≠ e') : NotRow w e' k := by
  rcases h.2 with ⟨h0, h1⟩ | ⟨g, cap, cur, h0, hb, hg, _⟩
  · subst h0; cases hv
  · subst h0
    cases hv
    exact NotRow.of_cells hg ht
theorem nodes_row {w : World} {a : Option Addr} {n c : Nat} {L : List Cp} (h : w.ownsRow 0 65 9 (.slice a n c) L.length (nodesCells L)) (hk : ∀ p ∈ L, OwnInts w (.slice p.2.1 p.1.kids.length p.2.2) p.1.kids) :
    Nodes w a (L.map (·.1)) ∧ n = L.length ∧ n ≤ c ∧ c ≤ maxLen := by
  rcases h.2 with ⟨h0, h1⟩ | ⟨g, cap, cur, h0, hb, hg, hn, hc, hs, ht⟩
  · cases h0
    obtain rfl := List.eq_nil_of_length_eq_zero h1
    exact ⟨(fun i hi => by cases hi), rfl, Nat.le_refl _, Nat.zero_le _⟩
  · cases h0
    have key : ∀ (j : Nat) (u : Value), (nodesCells L)[j]? = some u → cur[j]? = some u := by
      intro j u hu
      rw [← ht, List.getElem?_take] at hu
      split at hu
      · simpa using hu
      · cases hu
    refine ⟨fun i hi => ?_, rfl, hn, hc⟩
    have hi' : i < L.length := by simpa using hi
    obtain ⟨k1, k2, k3, k4⟩ := ownInts_read (hk _ (List.getElem_mem hi'))
    have cell : ∀ r, r < 9 → w.cell? ⟨g, i * 9 + r, none⟩ = (L[i]'hi').cells[r]? := by
      intro r hr
      have h1 := flat_get Cp.cells 9 cp_len L i r hr
      rw [List.getElem?_eq_getElem hi', Option.bind_some] at h1
      have h2 : (L[i]'hi').cells[r]? = some ((L[i]'hi').cells[r]'(by rw [cp_len]; exact hr)) := List.getElem?_eq_getElem _
      rw [cell_of_cells hg, h2]
      exact key _ _ (h1.trans h2)
    refine ⟨g, 0, (L[i]'hi').2.1, (L[i]'hi').1.kids.length, (L[i]'hi').2.2, rfl, ?_⟩
    simp only [List.getElem_map, Nat.zero_add]
    exact ⟨cell 0 (by decide), cell 1 (by decide), cell 2 (by decide), cell 3 (by decide), cell 4 (by decide), cell 5 (by decide), cell 6 (by decide), cell 7 (by decide), cell 8 (by decide), rfl, k3, k4, k1⟩

/-- The copy, so far. -/
def CopyAt (w : World) (ns : List Nd) (k : Nat) (a : Option Addr) (c : Nat) (wr : World) : Prop :=
  ∃ L : List Cp, L.map (·.1) = ns.take k ∧ wr.ownsRow 0 65 9 (.slice a k c) k (nodesCells L) ∧ (∀ p ∈ L, OwnInts wr (.slice p.2.1 p.1.kids.length p.2.2) p.1.kids) ∧ (∀ j, (Value.slice a k c).ownBlock = some j → w.heap.size ≤ j) ∧ Chg [] w wr
def NewNodes (w : World) (ns : List Nd) (e : Ending) (w' : World) : Prop :=
  ∃ a c, e = .returned (.slice a ns.length c) ∧ Nodes w' a ns ∧ ns.length ≤ c ∧ c ≤ maxLen ∧ Chg [] w w'
end Go.Proofs.YtlklmpjakeedcaaGreatDoor
set_option linter.unusedVariables false
set_option linter.unusedSimpArgs false
namespace Go.Proofs.YtlklmpjakeedcaaGreatDoor
open Go.RowKit Go.MapKept Go.Shelf

/-- A block of two slices. -/
def TwoS (w : World) (T : Nat) (ty : TypeId) : Prop := ∃ a1 n1 c1 a2 n2 c2, w.heap[T]? = some (.cells #[.slice a1 n1 c1, .slice a2 n2 c2] ty (0, 0))
theorem two_ne {w : World} {T : Nat} {ty : TypeId} (hT : TwoS w T ty) {p : Addr} {v : Value} (h : w.cell? p = some v) (hv : ∀ a n c, v ≠ .slice a n c) : p.block ≠ T := by
  intro he
  obtain ⟨a1, n1, c1, a2, n2, c2, hT⟩ := hT
  obtain ⟨b, o, s⟩ := p
  simp only at he
  subst he
  have hs : s = none := by
    cases s with
    | none => rfl
    | some _ => simp [World.cell?, hT] at h
  subst hs
  rw [cell_of_cells hT] at h
  rcases o with _ | _ | o
  · simp at h; exact hv _ _ _ h.symm
  · simp at h; exact hv _ _ _ h.symm
  · simp at h
theorem Ints.two {w w' : World} {T : Nat} {ty : TypeId} {a : Option Addr} {zs : List Int} (h : Ints w a zs) (hT : TwoS w T ty) (hc : Chg [T] w w') : Ints w' a zs := fun i hi => by
  obtain ⟨b, o, h1, h2⟩ := h i hi
  have := two_ne hT h2 (by intro a n c e; cases e)
  exact ⟨b, o, h1, hc.cell h2 (by simpa using this)⟩
theorem Rules.two {w w' : World} {T : Nat} {ty : TypeId} {a : Option Addr} {rs : List Rl} (h : Rules w a rs) (hT : TwoS w T ty) (hc : Chg [T] w w') : Rules w' a rs := fun i hi => by
  obtain ⟨b, o, h1, h2, h3⟩ := h i hi
  have := two_ne hT h2 (by intro a n c e; cases e)
  exact ⟨b, o, h1, hc.cell h2 (by simpa using this), hc.cell h3 (by simpa using this)⟩
theorem Nodes.two {w w' : World} {T : Nat} {ty : TypeId} {a : Option Addr} {ns : List Nd} (h : Nodes w a ns) (hT : TwoS w T ty) (hc : Chg [T] w w') : Nodes w' a ns := fun i hi => by
  obtain ⟨b, o, ak, nk, ck, h1, h2⟩ := h i hi
  have hb := two_ne hT h2.k (by intro a n c e; cases e)
  have key : ∀ {q : Nat} {v : Value}, w.cell? ⟨b, q, none⟩ = some v → w'.cell? ⟨b, q, none⟩ = some v := fun h => hc.cell h (by simpa using hb)
  exact ⟨b, o, ak, nk, ck, h1, ⟨key h2.k, key h2.c0, key h2.c1, key h2.c2, key h2.c3, key h2.s, key h2.r, key h2.l, key h2.kids, h2.len, h2.le, h2.cap, h2.ints.two hT hc⟩⟩

def NewGram (w : World) (g : Gr) (e : Ending) (w' : World) : Prop :=
  ∃ b1 d1 b2 d2, e = .returned (.agg #[.slice b1 g.rules.length d1, .slice b2 g.nodes.length d2]) ∧ GramAt w' b1 g.rules.length d1 b2 g.nodes.length d2 g ∧ Chg [] w w'

end Go.Proofs.YtlklmpjakeedcaaGreatDoor

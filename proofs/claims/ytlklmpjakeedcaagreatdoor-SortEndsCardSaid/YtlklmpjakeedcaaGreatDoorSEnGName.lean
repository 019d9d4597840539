/-
 DERIVED: THE SHELF's CONTRACTS AT THIS DUMP, IN PLAIN WORDS (tools/lay-plain.mjs out of 'TryzShelf.lean', which tools/lay-shelf.mjs wrote): THE SAME DECLARATIONS UNDER THE SAME NAMES: 'import', 'namespace', 'open', 'def', 'theorem' AND NOTHING ELSE: no command of the shelf's: FOR A HAND-IN. Each laying: the table of numbers ('.._ren') and one theorem, a field a fact of the dump's own or the kernel's comparison; each contract: ONE APPLICATION.
-/
import Derived.Shelf.GgClosure.StringsIndexFunc
import Derived.Ground.GgwProg
import Derived.Shelf.GgClosure.StringsIndexFuncTop
import Derived.Test.YtlklmpjakeedcaaGreatDoorProg
import Derived.Test.YtlklmpjakeedcaaGreatDoorSEnGRule
import Derived.Lib.Strings
import Derived.Deep.DrawnRows
namespace Go.Proofs
open Go.Shelf
def Tryz.laysGw15_ren : Go.Shelf.Ren := ⟨fun | 15 => 99 | 20 => 147 | n => n, fun | 9 => 9 | 23 => 150 | 3 => 3 | 4 => 4 | 0 => 0 | 21 => 21 | n => n, fun | n => n⟩
theorem Tryz.laysGw15 : Go.Proofs.LaysGw.n15 Tryz.prog Tryz.laysGw15_ren := {
 mixed := by kernel_rfl
 f15 := Tryz.func99.trans (congrArg some (by kernel_rfl))
 f20 := Tryz.func147.trans (congrArg some (by kernel_rfl))
 t0 := Tryz.underlying0
 a0 := Tryz.isAgg0
 z0 := Tryz.sizeOf0
 v0 := Tryz.zeroValue0
 i0 := by kernel_rfl
 t3 := Tryz.underlying3
 a3 := Tryz.isAgg3
 z3 := Tryz.sizeOf3
 v3 := Tryz.zeroValue3
 i3 := by kernel_rfl
 t4 := Tryz.underlying4
 a4 := Tryz.isAgg4
 z4 := Tryz.sizeOf4
 v4 := Tryz.zeroValue4
 i4 := by kernel_rfl
 t9 := Tryz.underlying9
 a9 := Tryz.isAgg9
 z9 := Tryz.sizeOf9
 v9 := Tryz.zeroValue9
 i9 := by kernel_rfl
 t21 := Tryz.underlying21
 a21 := Tryz.isAgg21
 z21 := Tryz.sizeOf21
 v21 := Tryz.zeroValue21
 i21 := by kernel_rfl
 t23 := Tryz.underlying150
 a23 := Tryz.isAgg150
 z23 := Tryz.sizeOf150
 v23 := Tryz.zeroValue150
 i23 := by kernel_rfl }
open Go.RowKit Go.Lib in
theorem Tryz.strings_IndexFunc (g : Nat) (lb : Array Value) (eg : ∀ args w, (callFunc g args).run Tryz.prog w = .ok (.enter g args) w) (p : Nat → Bool) (s : ByteArray) (w : World) (hp : PredAt Tryz.prog g lb encR p w) :
  Calls Tryz.prog 99 #[.string s, .func (.func g) #[] lb] w fun e w' => e = .returned (.int .i64 (Lib.idxFunc p true s)) ∧ Below w.heap.size w w' := Any.strings_IndexFunc Tryz.laysGw15 g lb eg p s w hp
end Go.Proofs
set_option linter.unusedVariables false
set_option linter.unusedSimpArgs false
namespace Go.Proofs.YtlklmpjakeedcaaGreatDoor
open Go.RowKit Go.MapKept Go.Proofs Go.Lib

def letR (r : Int) : Bool := (decide (97 ≤ r) && decide (r ≤ 122)) || (decide (65 ≤ r) && decide (r ≤ 90)) || decide (r = 95)

set_option maxRecDepth 100000 in
set_option maxHeartbeats 1000000 in
theorem letter_any (r : Int) (w : World) : Calls Tryz.prog 97 #[.int .i32 r] w fun e w' => e = .returned (.bool (letR r)) ∧ w = w' := by
 have hc : r < 65 ∨ (65 ≤ r ∧ r ≤ 90) ∨ (90 < r ∧ r < 95) ∨ r = 95 ∨ (95 < r ∧ r < 97) ∨ (97 ≤ r ∧ r ≤ 122) ∨ 122 < r := by omega
 have L : letR r = decide ((97 ≤ r ∧ r ≤ 122) ∨ (65 ≤ r ∧ r ≤ 90) ∨ r = 95) := by
  unfold letR
  rw [Bool.eq_iff_iff]
  simp only [Bool.or_eq_true, Bool.and_eq_true, decide_eq_true_eq]
  omega
 rw [L]
 clear L
 rcases hc with h | ⟨h, k⟩ | ⟨h, k⟩ | h | ⟨h, k⟩ | ⟨h, k⟩ | h
 ·have e : (r == 95) = false := by simp; omega
  have d : decide ((97 ≤ r ∧ r ≤ 122) ∨ (65 ≤ r ∧ r ≤ 90) ∨ r = 95) = false := by simp; omega
  rw [d]; clear d
  go_enter Tryz.func97, Tryz.ntmps97
  go_wp2
  go_ret
  exact ⟨by first | rfl | (congr 2; simp; omega), rfl⟩
 ·have d : decide ((97 ≤ r ∧ r ≤ 122) ∨ (65 ≤ r ∧ r ≤ 90) ∨ r = 95) = true := by simp; omega
  rw [d]; clear d
  go_enter Tryz.func97, Tryz.ntmps97
  go_wp2
  go_ret
  exact ⟨by first | rfl | (congr 2; simp; omega), rfl⟩
 ·have e : (r == 95) = false := by simp; omega
  have d : decide ((97 ≤ r ∧ r ≤ 122) ∨ (65 ≤ r ∧ r ≤ 90) ∨ r = 95) = false := by simp; omega
  rw [d]; clear d
  go_enter Tryz.func97, Tryz.ntmps97
  go_wp2
  go_ret
  exact ⟨by first | rfl | (congr 2; simp; omega), rfl⟩
 ·subst h
  go_enter Tryz.func97, Tryz.ntmps97
  go_wp2
  go_ret
  exact ⟨by first | rfl | (congr 2; simp; omega), rfl⟩
 ·have e : (r == 95) = false := by simp; omega
  have d : decide ((97 ≤ r ∧ r ≤ 122) ∨ (65 ≤ r ∧ r ≤ 90) ∨ r = 95) = false := by simp; omega
  rw [d]; clear d
  go_enter Tryz.func97, Tryz.ntmps97
  go_wp2
  go_ret
  exact ⟨by first | rfl | (congr 2; simp; omega), rfl⟩
 ·have d : decide ((97 ≤ r ∧ r ≤ 122) ∨ (65 ≤ r ∧ r ≤ 90) ∨ r = 95) = true := by simp; omega
  rw [d]; clear d
  go_enter Tryz.func97, Tryz.ntmps97
  go_wp2
  go_ret
  exact ⟨by first | rfl | (congr 2; simp; omega), rfl⟩
 ·have e : (r == 95) = false := by simp; omega
  have d : decide ((97 ≤ r ∧ r ≤ 122) ∨ (65 ≤ r ∧ r ≤ 90) ∨ r = 95) = false := by simp; omega
  rw [d]; clear d
  go_enter Tryz.func97, Tryz.ntmps97
  go_wp2
  go_ret
  exact ⟨by first | rfl | (congr 2; simp; omega), rfl⟩

def oddN (r : Nat) : Bool := !letR r && (decide (r < 48) || decide (57 < r))
set_option maxRecDepth 100000 in
set_option maxHeartbeats 1000000 in
theorem odd_at (w : World) (B : Nat) (hB : B < w.heap.size) (hc : w.cell? ⟨B, 0, none⟩ = some (.func (.func 97) #[] #[])) :
  PredAt Tryz.prog 98 #[.pointer (some ⟨B, 0, none⟩)] encR oddN w := fun W r hb => by
 have hc' : W.cell? ⟨B, 0, none⟩ = some (.func (.func 97) #[] #[]) := (hb.cell (p := ⟨B, 0, none⟩) hB).trans hc
 have hB' : B < W.heap.size := World.block_lt_of_cell? _ _ hc'
 clear hc hb hB
 unfold FnGives
 unfold oddN encR
 cases hl : letR (r : Int)
 ·have hr : r < 48 ∨ (48 ≤ r ∧ r ≤ 57) ∨ 57 < r := by omega
  have HL := Lib.hid hl
  clear hl
  rcases hr with h | ⟨h, k⟩ | h
  all_goals
   go_enter Tryz.func98, Tryz.ntmps98
   go_wp2_with fail
   refine (letter_any _ _).mono ?_
   rintro e w1 ⟨rfl, rfl⟩
   rw [HL.out]
   go_wp2
   go_ret
   refine ⟨ret_bool ?_, 0, rfl⟩; first | rfl | (simp; done) | (rw [Bool.eq_iff_iff]; simp; omega)
 ·have HL := Lib.hid hl
  clear hl
  go_enter Tryz.func98, Tryz.ntmps98
  go_wp2_with fail
  refine (letter_any _ _).mono ?_
  rintro e w1 ⟨rfl, rfl⟩
  rw [HL.out]
  go_wp2
  go_ret
  exact ⟨by first | rfl | simp, 0, rfl⟩

/-! ### The plain law -/
theorem decode_lt {s : ByteArray} {p : Nat} (h : (s.get! p).toNat < 128) : Utf8.decode s p = ((s.get! p).toNat, 1) := by
 unfold Utf8.decode
 simp [h]
theorem decode_ge {s : ByteArray} {p : Nat} (h : ¬ (s.get! p).toNat < 128) : 128 ≤ (Utf8.decode s p).1 := by
 unfold Utf8.decode
 simp only [Nat.add_zero, h, if_false, Utf8.runeError]
 split
 ·split <;> simp_all
 ·split
  ·split
   ·rename_i h1; simp only [Bool.and_eq_true, decide_eq_true_eq, ge_iff_le] at h1; simp; omega
   ·simp
  ·split
   ·split
    ·rename_i h1; simp only [Bool.and_eq_true, decide_eq_true_eq, ge_iff_le] at h1; simp; omega
    ·simp
   ·simp
def okR (r : Nat) : Bool := letR r || (decide (48 ≤ r) && decide (r ≤ 57))
theorem okR_odd (r : Nat) : oddN r = !okR r := by
 unfold oddN okR
 cases letR r
 ·by_cases h1 : 48 ≤ r <;> by_cases h2 : r ≤ 57 <;> simp [h1, h2] <;> omega
 ·simp
theorem okR_big {r : Nat} (h : 128 ≤ r) : okR r = false := by
 unfold okR letR
 simp only [Bool.or_eq_false_iff, Bool.and_eq_false_iff, decide_eq_false_iff_not]
 omega
theorem idx_neg {s : ByteArray} : ∀ (f p : Nat), s.size - p ≤ f → (idxFuncFrom oddN true s f p < 0 ↔ ∀ j, p ≤ j → j < s.size → okR (s.get! j).toNat = true) := by
 intro f
 induction f with
 | zero => intro p h; simp only [idxFuncFrom]; exact ⟨fun _ j h1 h2 => by omega, fun _ => by omega⟩
 | succ f ih =>
  intro p h
  simp only [idxFuncFrom]
  by_cases hp : p < s.size
  ·rw [if_pos hp]
   by_cases hb : (s.get! p).toNat < 128
   ·rw [decode_lt hb, okR_odd]
    cases ho : okR (s.get! p).toNat
    ·simp only [Bool.not_false, if_true]
     refine ⟨fun h => by omega, fun h => ?_⟩
     have := h p (Nat.le_refl _) hp
     rw [ho] at this
     cases this
    ·simp only [Bool.not_true, Bool.false_eq_true, if_false]
     rw [ih (p + 1) (by omega)]
     refine ⟨fun h j h1 h2 => ?_, fun h j h1 h2 => h j (by omega) h2⟩
     by_cases e : j = p
     ·subst e; exact ho
     ·exact h j (by omega) h2
   ·have hd := decode_ge hb
    rw [okR_odd, okR_big hd]
    simp only [Bool.not_false, if_true]
    refine ⟨fun h => by omega, fun h => ?_⟩
    have := h p (Nat.le_refl _) hp
    rw [okR_big (by omega)] at this
    cases this
  ·rw [if_neg hp]
   exact ⟨fun _ j h1 h2 => by omega, fun _ => by omega⟩
theorem letterB_R (c : UInt8) : letterB c = letR (c.toNat : Int) := by
 unfold letterB letR
 rw [Bool.eq_iff_iff]
 simp only [Bool.or_eq_true, Bool.and_eq_true, decide_eq_true_eq, UInt8.le_iff_toNat_le, beq_iff_eq, ← UInt8.toNat_inj]
 have e1 : (97 : UInt8).toNat = 97 := rfl
 have e2 : (122 : UInt8).toNat = 122 := rfl
 have e3 : (65 : UInt8).toNat = 65 := rfl
 have e4 : (90 : UInt8).toNat = 90 := rfl
 have e5 : (95 : UInt8).toNat = 95 := rfl
 rw [e1, e2, e3, e4, e5]
 omega
theorem digitB_R (c : UInt8) : digitB c = (decide (48 ≤ c.toNat) && decide (c.toNat ≤ 57)) := by
 unfold digitB
 rw [Bool.eq_iff_iff]
 simp only [Bool.and_eq_true, decide_eq_true_eq, UInt8.le_iff_toNat_le]
 exact Iff.rfl
theorem okR_B (c : UInt8) : okR c.toNat = (letterB c || digitB c) := by rw [letterB_R, digitB_R]; rfl
theorem get_at (s : ByteArray) (j : Nat) (h : j < s.size) : s.get! j = s[j] := by
 show s.data[j]! = _
 rw [getElem!_pos s.data j h]
 rfl
/-- A name, by what the program asks. -/
theorem nameB_eq {s : ByteArray} (h0 : 0 < s.size) : nameB s = (decide (s.size ≤ 32) && decide (Lib.idxFunc oddN true s < 0) && letR (s[0].toNat : Int)) := by
 have hi : (Lib.idxFunc oddN true s < 0) ↔ ∀ j, 0 ≤ j → j < s.size → okR (s.get! j).toNat = true := idx_neg s.size 0 (by omega)
 unfold nameB
 have hl : s.data.toList.length = s.size := by first | (simp; done) | (simp; rfl)
 cases hd : s.data.toList with
 | nil => rw [hd] at hl; simp at hl; omega
 | cons c r =>
  have hg : ∀ j (hj : j < s.size), s[j] = (c :: r)[j]'(by rw [← hd, hl]; exact hj) := by
   intro j hj
   have : s[j] = s.data[j] := rfl
   rw [this, ← Array.getElem_toList]
   simp only [hd]
  have h1 : s[0] = c := hg 0 h0
  rw [hd] at hl
  simp only [List.length_cons] at hl
  simp only [nameL]
  rw [Bool.eq_iff_iff]
  simp only [Bool.and_eq_true, decide_eq_true_eq, List.all_eq_true]
  rw [hi, h1, ← letterB_R]
  constructor
  ·rintro ⟨⟨h2, h3⟩, h4⟩
   refine ⟨⟨by omega, fun j _ hj => ?_⟩, h2⟩
   rw [get_at s j hj, hg j hj, okR_B]
   cases j with
   | zero => simp [h2]
   | succ j => exact h3 _ (List.getElem_mem _)
  ·rintro ⟨⟨h2, h3⟩, h4⟩
   refine ⟨⟨h4, fun x hx => ?_⟩, by omega⟩
   obtain ⟨j, hj, rfl⟩ := List.mem_iff_getElem.1 hx
   have := h3 (j + 1) (by omega) (by omega)
   rw [get_at s _ (by omega), hg _ (by omega), okR_B] at this
   simpa using this

theorem name_empty {s : ByteArray} (h : s.size = 0) : nameB s = false := by
 unfold nameB
 have : s.data.toList = [] := List.eq_nil_of_length_eq_zero (by simpa using h)
 rw [this]
 rfl
end Go.Proofs.YtlklmpjakeedcaaGreatDoor
set_option linter.unusedVariables false
set_option linter.unusedSimpArgs false
namespace Go.Proofs.YtlklmpjakeedcaaGreatDoor
open Go.RowKit Go.MapKept Go.Proofs Go.Lib
attribute [local go_sem ↓] Go.wp_at_zero Go.wp_at_succ

theorem odd_idx (w : World) (s : ByteArray) (B : Nat) (hB : B < w.heap.size) (hc : w.cell? ⟨B, 0, none⟩ = some (.func (.func 97) #[] #[])) :
  Calls Tryz.prog 99 #[.string s, .func (.func 98) #[] #[.pointer (some ⟨B, 0, none⟩)]] w fun e w' => e = .returned (.int .i64 (Lib.idxFunc oddN true s)) ∧ Chg [] w w' :=
 (Tryz.strings_IndexFunc 98 _ (enters_of Tryz.func98 (by kernel_rfl) rfl) oddN s w (odd_at w B hB hc)).mono fun _ _ ⟨h1, h2⟩ => ⟨h1, .of_below h2⟩

theorem letter_chg (r : Int) (w : World) : Calls Tryz.prog 97 #[.int .i32 r] w fun e w' => e = .returned (.bool (letR r)) ∧ Chg [] w w' :=
 (letter_any r w).mono fun e w' h => ⟨h.1, h.2 ▸ Chg.refl [] w⟩

set_option maxRecDepth 100000 in
set_option maxHeartbeats 1000000 in
theorem Name_any (s : ByteArray) (w : World) (hs : s.size ≤ maxLen) : Calls Tryz.prog 69 #[.string s] w fun e w' => e = .returned (.bool (nameB s)) ∧ Chg [] w w' := by
 unfold maxLen at hs
 by_cases h0 : s.size = 0
 ·have hb := name_empty h0
  have hd : s.toList = [] := by
   have : s.toList.length = 0 := by rw [Lib.toList_data]; simpa using h0
   exact List.eq_nil_of_length_eq_zero this
  have hd2 : s.toList.isEmpty = true := by rw [hd]; rfl
  rw [hb]
  clear hb h0
  go_enter Tryz.func69, Tryz.ntmps69
  go_wp2_with fail
  go_quiet (fail)
  all_goals go_wp2
  all_goals go_ret
  all_goals exact ⟨rfl, ((Chg.refl _ _).alloc _).drewN _⟩
 ·have hd : ¬ s.toList = [] := by
   rw [Lib.toList_data]
   intro h
   have := congrArg List.length h
   exact h0 (by simpa using this)
  have hd2 : s.toList.isEmpty = false := by simpa using hd
  have hb := nameB_eq (s := s) (by omega)
  by_cases hl : s.size ≤ 32
  ·obtain ⟨I, hI⟩ : ∃ I, Lib.idxFunc oddN true s = I := ⟨_, rfl⟩
   rw [hI] at hb
   have hl2 : decide ((s.size : Int) ≤ 32) = true := by simp; omega
   have hsz : 0 < s.size := by omega
   have HB := Lib.hid (And.intro hb hI)
   clear hb hI
   have hx : decide (I < 0) = true ∨ decide (I < 0) = false := by cases decide (I < 0) <;> simp
   rcases hx with hx | hx
   all_goals
    go_enter Tryz.func69, Tryz.ntmps69
    go_wp2_with fail
    have hc0 := cells1 (heap_alloc_same w (.cells #[.func (.func 97) #[] #[]] 150))
    have kc := cell_rg hc0
    have cI := calls_rg (w := w.alloc (.cells #[.func (.func 97) #[] #[]] 150)) (fun w1 h1 => odd_idx w1 s w.heap.size (Nat.lt_of_lt_of_le (by simp) h1.size) (h1.cell hc0 List.not_mem_nil))
    have cL := fun r => calls_rg (w := w.alloc (.cells #[.func (.func 97) #[] #[]] 150)) (fun w1 _ => letter_chg r w1)
    rw [HB.out.2] at cI
    clear hc0
    refine wp_region_quiet_below (by kernel_rfl) (by kernel_rfl) ?_
    repeat (go_big_quiet_step (first | (with_reducible exact cI _ _) | (with_reducible exact cL _ _ _)))
    refine wpQuiet_nil ?_
    intro w1 hw'
    have h1 := Lib.hid (chg_of_rg hw')
    clear hw'
    go_wp2
    go_ret
    refine ⟨ret_bool ?_, ((Chg.refl _ _).alloc _).tr h1.out⟩
    have hw : wrap32 ((s[0]'hsz).toNat : Int) = ((s[0]'hsz).toNat : Int) := by have := (s[0]'hsz).toNat_lt; unfold wrap32; omega
    rw [HB.out.1, hx]
    try rw [hw]
    simp [hl]
  ·have hl2 : decide ((s.size : Int) ≤ 32) = false := by simp; omega
   have hb2 : nameB s = false := by rw [hb]; simp [hl]
   rw [hb2]
   clear hb hb2
   go_enter Tryz.func69, Tryz.ntmps69
   go_wp2_with fail
   go_quiet (fail)
   all_goals go_wp2
   all_goals go_ret
   all_goals exact ⟨rfl, ((Chg.refl _ _).alloc _).drewN _⟩
end Go.Proofs.YtlklmpjakeedcaaGreatDoor

/-
  Names: the program's test and the document's.
  Conditions: none.
-/
import Derived.Test.YtplpboknmhgpiaaCPtGBase
import Derived.Lib.Strings
import Derived.Deep.DrawnRows
import Derived.Shelf.GgClosure.StringsIndexFunc
import Derived.Ground.GgwProg
import Derived.Shelf.GgClosure.StringsIndexFuncTop
import Derived.Test.YtplpboknmhgpiaaProg
set_option linter.unusedVariables false
set_option linter.unusedSimpArgs false
namespace Go.Proofs.Ytplpboknmhgpiaa
open Go.RowKit Go.MapKept Go.Proofs Go.Lib

def letR (r : Int) : Bool := (decide (97 ≤ r) && decide (r ≤ 122)) || (decide (65 ≤ r) && decide (r ≤ 90)) || decide (r = 95)

def oddN (r : Nat) : Bool := !letR r && (decide (r < 48) || decide (57 < r))
/-! ### The plain law -/
theorem decode_lt {s : ByteArray} {p : Nat} (h : (s.get! p).toNat < 128) : Utf8.decode s p = ((s.get! p).toNat, 1) := by
  unfold Utf8.decode
  simp [h]
theorem decode_ge {s : ByteArray} {p : Nat} (h : ¬ (s.get! p).toNat < 128) : 128 ≤ (Utf8.decode s p).1 := by
  unfold Utf8.decode
  simp only [Nat.add_zero, h, if_false, Utf8.runeError]
  split
  · split <;> simp_all
  · split
    · split
      · rename_i h1; simp only [Bool.and_eq_true, decide_eq_true_eq, ge_iff_le] at h1; simp; omega
      · simp
    · split
      · split
        · rename_i h1; simp only [Bool.and_eq_true, decide_eq_true_eq, ge_iff_le] at h1; simp; omega
        · simp
      · simp
def okR (r : Nat) : Bool := letR r || (decide (48 ≤ r) && decide (r ≤ 57))
theorem okR_odd (r : Nat) : oddN r = !okR r := by
  unfold oddN okR
  cases letR r
  · by_cases h1 : 48 ≤ r <;> by_cases h2 : r ≤ 57 <;> simp [h1, h2] <;> omega
  · simp
theorem okR_big {r : Nat} (h : 128 ≤ r) : okR r = false := by
  unfold okR letR
  simp only [Bool.or_eq_false_iff, Bool.and_eq_false_iff, decide_eq_false_iff_not]
  omega
theorem idx_neg {s : ByteArray} : ∀ (f p : Nat), s.size - p ≤ f → (idxFuncFrom oddN true s f p < 0 ↔ ∀ j, p ≤ j → j < s.size → okR (s.get! j).toNat = true) := by
  intro f
  induction f with
  | zero => intro p h; simp only [idxFuncFrom]; exact ⟨fun _ j h1 h2 => by omega, fun _ => by omega⟩
  | succ f ih =>
    intro p h
    simp only [idxFuncFrom]
    by_cases hp : p < s.size
    · rw [if_pos hp]
      by_cases hb : (s.get! p).toNat < 128
      · rw [decode_lt hb, okR_odd]
        cases ho : okR (s.get! p).toNat
        · simp only [Bool.not_false, if_true]
          refine ⟨fun h => by omega, fun h => ?_⟩
          have := h p (Nat.le_refl _) hp
          rw [ho] at this
          cases this
        · simp only [Bool.not_true, Bool.false_eq_true, if_false]
          rw [ih (p + 1) (by omega)]
          refine ⟨fun h j h1 h2 => ?_, fun h j h1 h2 => h j (by omega) h2⟩
          by_cases e : j = p
          · subst e; exact ho
          · exact h j (by omega) h2
      · have hd := decode_ge hb
        rw [okR_odd, okR_big hd]
        simp only [Bool.not_false, if_true]
        refine ⟨fun h => by omega, fun h => ?_⟩
        have := h p (Nat.le_refl _) hp
        rw [okR_big (by omega)] at this
        cases this
    · rw [if_neg hp]
      exact ⟨fun _ j h1 h2 => by omega, fun _ => by omega⟩
theorem letterB_R (c : UInt8) : letterB c = letR (c.toNat : Int) := by
  unfold letterB letR
  rw [Bool.eq_iff_iff]
  simp only [Bool.or_eq_true, Bool.and_eq_true, decide_eq_true_eq, UInt8.le_iff_toNat_le, beq_iff_eq, ← UInt8.toNat_inj]
  have e1 : (97 : UInt8).toNat = 97 := rfl
  have e2 : (122 : UInt8).toNat = 122 := rfl
  have e3 : (65 : UInt8).toNat = 65 := rfl
  have e4 : (90 : UInt8).toNat = 90 := rfl
  have e5 : (95 : UInt8).toNat = 95 := rfl
  rw [e1, e2, e3, e4, e5]
  omega
theorem digitB_R (c : UInt8) : digitB c = (decide (48 ≤ c.toNat) && decide (c.toNat ≤ 57)) := by
  unfold digitB
  rw [Bool.eq_iff_iff]
  simp only [Bool.and_eq_true, decide_eq_true_eq, UInt8.le_iff_toNat_le]
  exact Iff.rfl
theorem okR_B (c : UInt8) : okR c.toNat = (letterB c || digitB c) := by rw [letterB_R, digitB_R]; rfl
theorem get_at (s : ByteArray) (j : Nat) (h : j < s.size) : s.get! j = s[j] := by
  show s.data[j]! = _
  rw [getElem!_pos s.data j h]
  rfl
/-- A name, by what the program asks. -/
theorem nameB_eq {s : ByteArray} (h0 : 0 < s.size) : nameB s = (decide (s.size ≤ 32) && decide (Lib.idxFunc oddN true s < 0) && letR (s[0].toNat : Int)) := by
  have hi : (Lib.idxFunc oddN true s < 0) ↔ ∀ j, 0 ≤ j → j < s.size → okR (s.get! j).toNat = true := idx_neg s.size 0 (by omega)
  unfold nameB
  have hl : s.data.toList.length = s.size := by first | (simp; done) | (simp; rfl)
  cases hd : s.data.toList with
  | nil => rw [hd] at hl; simp at hl; omega
  | cons c r =>
    have hg : ∀ j (hj : j < s.size), s[j] = (c :: r)[j]'(by rw [← hd, hl]; exact hj) := by
      intro j hj
      have : s[j] = s.data[j] := rfl
      rw [this, ← Array.getElem_toList]
      simp only [hd]
    have h1 : s[0] = c := hg 0 h0
    rw [hd] at hl
    simp only [List.length_cons] at hl
    simp only [nameL]
    rw [Bool.eq_iff_iff]
    simp only [Bool.and_eq_true, decide_eq_true_eq, List.all_eq_true]
    rw [hi, h1, ← letterB_R]
    constructor
    · rintro ⟨⟨h2, h3⟩, h4⟩
      refine ⟨⟨by omega, fun j _ hj => ?_⟩, h2⟩
      rw [get_at s j hj, hg j hj, okR_B]
      cases j with
      | zero => simp [h2]
      | succ j => exact h3 _ (List.getElem_mem _)
    · rintro ⟨⟨h2, h3⟩, h4⟩
      refine ⟨⟨h4, fun x hx => ?_⟩, by omega⟩
      obtain ⟨j, hj, rfl⟩ := List.mem_iff_getElem.1 hx
      have := h3 (j + 1) (by omega) (by omega)
      rw [get_at s _ (by omega), hg _ (by omega), okR_B] at this
      simpa using this

theorem name_empty {s : ByteArray} (h : s.size = 0) : nameB s = false := by
  unfold nameB
  have : s.data.toList = [] := List.eq_nil_of_length_eq_zero (by simpa using h)
  rw [this]
  rfl
end Go.Proofs.Ytplpboknmhgpiaa
set_option linter.unusedVariables false
set_option linter.unusedSimpArgs false
namespace Go.Proofs.Ytplpboknmhgpiaa
open Go.RowKit Go.MapKept Go.Proofs Go.Lib
attribute [local go_sem ↓] Go.wp_at_zero Go.wp_at_succ

end Go.Proofs.Ytplpboknmhgpiaa

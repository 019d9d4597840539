/-
  Names: the walks of the program's test and of the document's.
  Conditions: the text is no longer than a slice can be.
-/
import Derived.Test.YtibgfgfmljhimaaGreatQGName
import Derived.Lib.Strings
set_option linter.unusedVariables false
set_option linter.unusedSimpArgs false
namespace Go.Proofs.YtibgfgfmljhimaaGreat
open Go.RowKit Go.MapKept Go.Proofs Go.Lib

theorem nameB_iff (s : ByteArray) : nameB s = true ↔ 1 ≤ s.size ∧ s.size ≤ 32 ∧ ∀ j (h : j < s.size), (letterB s[j] || (decide (j ≠ 0) && digitB s[j])) = true := by
  by_cases h0 : s.size = 0
  · rw [name_empty h0]
    exact ⟨fun h => (by cases h), fun h => (by omega)⟩
  · have hl : s.data.toList.length = s.size := by first | (simp; done) | (simp; rfl)
    unfold nameB
    cases hd : s.data.toList with
    | nil => rw [hd] at hl; simp at hl; omega
    | cons c r =>
      have hg : ∀ j (hj : j < s.size), s[j] = (c :: r)[j]'(by rw [← hd, hl]; exact hj) := by
        intro j hj
        have : s[j] = s.data[j] := rfl
        rw [this, ← Array.getElem_toList]
        simp only [hd]
      rw [hd] at hl
      simp only [List.length_cons] at hl
      simp only [nameL, Bool.and_eq_true, decide_eq_true_eq, List.all_eq_true]
      constructor
      · rintro ⟨⟨h1, h2⟩, h3⟩
        refine ⟨by omega, by omega, fun j hj => ?_⟩
        rw [hg j hj]
        cases j with
        | zero => simp [h1]
        | succ j => simpa using h2 _ (List.getElem_mem (by first | omega | (simp; omega)))
      · rintro ⟨h1, h2, h3⟩
        refine ⟨⟨?_, fun x hx => ?_⟩, by omega⟩
        · have := h3 0 (by omega)
          rw [hg 0 (by omega)] at this
          simpa using this
        · obtain ⟨j, hj, rfl⟩ := List.mem_iff_getElem.1 hx
          have := h3 (j + 1) (by omega)
          rw [hg _ (by omega)] at this
          simpa using this
def okAt (s : ByteArray) (j : Nat) (h : j < s.size) : Bool := letterB s[j] || (decide (j ≠ 0) && digitB s[j])
theorem okAt_eq (s : ByteArray) (k : Nat) (h : k < s.size) : okAt s k h = decide (((97 ≤ s[k].toNat ∧ s[k].toNat ≤ 122) ∨ (65 ≤ s[k].toNat ∧ s[k].toNat ≤ 90) ∨ s[k].toNat = 95) ∨ (k ≠ 0 ∧ 48 ≤ s[k].toNat ∧ s[k].toNat ≤ 57)) := by
  unfold okAt
  rw [letterB_R, digitB_R]
  unfold letR
  rw [Bool.eq_iff_iff]
  simp only [Bool.or_eq_true, Bool.and_eq_true, decide_eq_true_eq]
  omega
theorem name_bad {s : ByteArray} {k : Nat} {h : k < s.size} (hb : okAt s k h = false) : false = nameB s := by
  cases hn : nameB s with
  | false => rfl
  | true => have := ((nameB_iff s).1 hn).2.2 k h; unfold okAt at hb; rw [hb] at this; cases this

set_option maxRecDepth 100000 in
set_option maxHeartbeats 1000000 in
theorem refName_any (s : ByteArray) (w : World) (hs : s.size ≤ maxLen) : Calls Tryz.prog 126 #[.string s] w fun e w' => e = .returned (.bool (nameB s)) ∧ Chg [] w w' := by
  unfold maxLen at hs
  go_enter Tryz.func126, Tryz.ntmps126
  go_wp2_with fail
  go_loop [3] (fun iv => ∃ k : Nat, k ≤ s.size ∧ iv = .int .i64 k ∧ Hid (∀ j (h : j < s.size), j < k → okAt s j h = true)) (fun iv => s.size - (intOf iv).toNat)
  case atStart => exact ⟨0, Nat.zero_le _, rfl, Lib.hid (fun j _ h => by omega)⟩
  case round =>
    obtain ⟨k, hk, rfl, hb⟩ := hrel
    by_cases hlt : k < s.size
    · have hx := s[k].toNat_lt
      have HK := Lib.hid (okAt_eq s k hlt)
      have hcase : s[k].toNat < 48 ∨ (48 ≤ s[k].toNat ∧ s[k].toNat ≤ 57 ∧ k = 0) ∨ (48 ≤ s[k].toNat ∧ s[k].toNat ≤ 57 ∧ 0 < k) ∨ (57 < s[k].toNat ∧ s[k].toNat < 65) ∨ (65 ≤ s[k].toNat ∧ s[k].toNat ≤ 90) ∨ (90 < s[k].toNat ∧ s[k].toNat < 95) ∨ s[k].toNat = 95 ∨ (95 < s[k].toNat ∧ s[k].toNat < 97) ∨ (97 ≤ s[k].toNat ∧ s[k].toNat ≤ 122) ∨ 122 < s[k].toNat := by omega
      have hk0 : ((k : Int) == 0) = decide (k = 0) := by
        rw [Bool.eq_iff_iff]; simp
      have h95 : (((s[k].toNat : Int)) == 95) = decide (s[k].toNat = 95) := by
        rw [Bool.eq_iff_iff]; simp; omega
      have q122 : decide ((s[k].toNat : Int) ≤ 122) = decide (s[k].toNat ≤ 122) := by rw [Bool.eq_iff_iff]; simp; omega
      have q48 : decide ((s[k].toNat : Int) < 48) = decide (s[k].toNat < 48) := by rw [Bool.eq_iff_iff]; simp; omega
      have q57 : decide (57 < (s[k].toNat : Int)) = decide (57 < s[k].toNat) := by rw [Bool.eq_iff_iff]; simp; omega
      have q90 : decide ((s[k].toNat : Int) ≤ 90) = decide (s[k].toNat ≤ 90) := by rw [Bool.eq_iff_iff]; simp; omega
      rcases hcase with h | ⟨h, h', h''⟩ | ⟨h, h', h''⟩ | ⟨h, h'⟩ | ⟨h, h'⟩ | ⟨h, h'⟩ | h | ⟨h, h'⟩ | ⟨h, h'⟩ | h
      all_goals
        first
        | (rw [show decide (s[k].toNat = 95) = false from by simp; omega] at h95)
        | (rw [show decide (s[k].toNat = 95) = true from by simp; omega] at h95)
        | skip
      all_goals
        first
        | (rw [show decide (s[k].toNat < 48) = false from by simp; omega] at q48)
        | (rw [show decide (s[k].toNat < 48) = true from by simp; omega] at q48)
      all_goals
        first
        | (rw [show decide (57 < s[k].toNat) = false from by simp; omega] at q57)
        | (rw [show decide (57 < s[k].toNat) = true from by simp; omega] at q57)
      all_goals
        first
        | (rw [show decide (s[k].toNat ≤ 122) = false from by simp; omega] at q122)
        | (rw [show decide (s[k].toNat ≤ 122) = true from by simp; omega] at q122)
      all_goals
        first
        | (rw [show decide (s[k].toNat ≤ 90) = false from by simp; omega] at q90)
        | (rw [show decide (s[k].toNat ≤ 90) = true from by simp; omega] at q90)
      all_goals
        first
        | (rw [show decide (k = 0) = false from by simp; omega] at hk0)
        | (rw [show decide (k = 0) = true from by simp; omega] at hk0)
        | skip
      all_goals try (have H00 := Lib.hid h''; clear h'')
      all_goals
        go_wp2
        all_goals first
        | (go_ret
           exact ⟨ret_bool (name_bad (k := k) (h := hlt) (by rw [HK.out]; simp; first | omega | (have := H00.out; omega))), Chg.refl _ _⟩)
        | (go_round
           case rel => exact ⟨k + 1, by omega, by go_num, Lib.hid (fun j hh hj => by
             by_cases e : j = k
             · subst e; rw [HK.out]; simp; first | omega | (have := H00.out; omega)
             · exact hb.out j hh (by omega))⟩
           case measure => simp [intOf]; omega)
        | (go_ret
           exact ⟨ret_bool (name_bad (k := k) (h := hlt) (by rw [HK.out]; simp; first | omega | (have := H00.out; omega))), Chg.refl _ _⟩)
    · obtain rfl : k = s.size := by omega
      go_wp2
      all_goals go_ret
      all_goals refine ⟨ret_bool ?_, Chg.refl _ _⟩
      all_goals have hall := hb.out
      all_goals rw [Bool.eq_iff_iff, nameB_iff]
      all_goals constructor
      all_goals intro h
      all_goals first
        | (simp at h; exact ⟨by omega, by omega, fun j hj => hall j hj hj⟩)
        | (obtain ⟨h1, h2, _⟩ := h; simp; omega)
        | (obtain ⟨h1, h2, _⟩ := h; exfalso; omega)
        | (cases h)
end Go.Proofs.YtibgfgfmljhimaaGreat

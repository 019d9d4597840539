/-
  Four tables, made one behind the other, lie apart: ApartIntRows says so, and writes over them alone.
  Conditions: each has at most 64 rows; the rows are not too long.
-/
import Derived.Test.YtplpboknmhgpiaaCTlCpAp
import Derived.Test.YtplpboknmhgpiaaCTlCpMr
set_option linter.unusedVariables false
set_option linter.unusedSimpArgs false
set_option linter.unnecessarySimpa false
namespace Go.Proofs.Ytplpboknmhgpiaa
open Go.RowKit Go.MapKept Go.Shelf

/-- Few rows, none of them long. -/
def Few (x : List (List Int)) : Prop := x.length ≤ 64 ∧ ∀ l ∈ x, l.length ≤ 1000000
theorem few_nil : Few [] := ⟨by simp, by simp⟩
theorem few_ints {L : List (List Nat)} (h : L.length ≤ 64) (hr : ∀ l ∈ L, l.length ≤ 64) : Few (Cp.intsG L) := by
  refine ⟨by rw [Cp.intsG_len]; exact h, fun l hl => ?_⟩
  unfold Cp.intsG at hl
  obtain ⟨m, hm, rfl⟩ := List.mem_map.1 hl
  have := hr m hm
  simp; omega
theorem few_parts (X : List (List Int)) : Few (Cp.partsI X) := by
  unfold Cp.partsI
  cases h : Cp.rightI X with
  | false => simpa using few_nil
  | true =>
    rw [if_pos rfl]
    have hG := Cp.right_RG h
    refine few_ints (Cp.place_small hG 0).2.2 (fun l hl => ?_)
    obtain ⟨p, hp, rfl⟩ := List.getElem_of_mem hl
    rw [(Cp.told hG).rows p hp]
    have h1 := List.length_filter_le (fun i => decide (Cp.placeR (Cp.partsR (Cp.toG X)) i = (p : Int))) (List.range (Cp.toG X).length)
    have h2 : (Cp.toG X).length ≤ 64 := by
      unfold Cp.rightI at h
      rw [Bool.and_eq_true] at h
      rw [Cp.toG_len]; exact of_decide_eq_true h.1
    rw [List.length_range] at h1
    omega
theorem few_turn (X : List (List Int)) : Few (Cp.turnI X) := by
  unfold Cp.turnI
  cases h : Cp.rightI X with
  | false => simpa using few_nil
  | true =>
    rw [if_pos rfl]
    have h2 : (Cp.toG X).length ≤ 64 := by
      unfold Cp.rightI at h
      rw [Bool.and_eq_true] at h
      rw [Cp.toG_len]; exact of_decide_eq_true h.1
    refine few_ints (by rw [Cp.turn_len]; exact h2) (fun l hl => ?_)
    unfold Cp.turnR at hl
    obtain ⟨b, hb, rfl⟩ := List.mem_map.1 hl
    have h1 := List.length_filter_le (fun a => (Cp.row (Cp.toG X) a).contains b) (List.range (Cp.toG X).length)
    rw [List.length_range] at h1
    omega

/-- A table of one's own whose blocks lie between two places. -/
structure TabAt (lo hi : Nat) (w : World) (a : Option Addr) (n c : Nat) (VS : List Is) : Prop where
  own : OwnIs lo w a c VS
  len : n = VS.length
  inn : ∀ p ∈ VS, ∀ b, p.own = some b → lo ≤ b ∧ b < hi
  top : ∀ b, (Value.slice a n c).ownBlock = some b → lo ≤ b ∧ b < hi
  few : VS.length ≤ 64 ∧ ∀ p ∈ VS, p.2.2.length ≤ 1000000
theorem TabAt.of {lo : Nat} {w : World} {a : Option Addr} {n c : Nat} {VS : List Is} {x : List (List Int)} (h : OwnIs lo w a c VS) (hn : n = VS.length) (hx : VS.map (·.2.2) = x) (hf : Few x) : TabAt lo w.heap.size w a n c VS := by
  subst hn
  refine ⟨h, rfl, fun p hp b hb => ?_, fun b hb => ?_, by have := hf.1; rw [← hx, List.length_map] at this; exact this, fun p hp => hf.2 _ (by rw [← hx]; exact List.mem_map.2 ⟨p, hp, rfl⟩)⟩
  · have := row_beyond (h.each p hp) hb; exact ⟨this.1, this.2.1⟩
  · have := row_beyond h.row hb; exact ⟨this.1, this.2.1⟩
theorem TabAt.chg0 {lo hi : Nat} {w w' : World} {a : Option Addr} {n c : Nat} {VS : List Is} (h : TabAt lo hi w a n c VS) (hc : Chg [] w w') : TabAt lo hi w' a n c VS := ⟨h.own.chg0 hc, h.len, h.inn, h.top, h.few⟩

theorem allL_four (VS : Nat → List Is) : allL VS 4 = VS 0 ++ (VS 1 ++ (VS 2 ++ VS 3)) := by
  show allL VS (3 + 1) = _
  rw [allL_succ, show allL VS 3 = allL VS (2 + 1) from rfl, allL_succ, show allL VS 2 = allL VS (1 + 1) from rfl, allL_succ, show allL VS 1 = allL VS (0 + 1) from rfl, allL_succ, show allL VS 0 = [] from rfl]
  simp [List.append_assoc]

def four {α : Type} (x0 x1 x2 x3 : α) (j : Nat) : α := if j = 0 then x0 else if j = 1 then x1 else if j = 2 then x2 else x3
theorem four_all {α : Type} {P : Nat → α → Prop} {x0 x1 x2 x3 : α} (h0 : P 0 x0) (h1 : P 1 x1) (h2 : P 2 x2) (h3 : P 3 x3) : ∀ j, j < 4 → P j (four x0 x1 x2 x3 j) := fun j hj => by
  rcases (show j = 0 ∨ j = 1 ∨ j = 2 ∨ j = 3 by omega) with rfl | rfl | rfl | rfl
  · exact h0
  · exact h1
  · exact h2
  · exact h3

theorem apartTabs_any (w : World) (b1 b2 b3 b4 b5 bL cL : Nat) (t : TypeId) (m : Nat × Nat) (hb : b1 ≤ b2 ∧ b2 ≤ b3 ∧ b3 ≤ b4 ∧ b4 ≤ b5 ∧ b5 ≤ bL) (hcL : 4 ≤ cL ∧ cL ≤ maxLen)
    {a0 a1 a2 a3 : Option Addr} {n0 n1 n2 n3 c0 c1 c2 c3 : Nat} {V0 V1 V2 V3 : List Is}
    (hL : w.heap[bL]? = some (.cells #[.slice a0 n0 c0, .slice a1 n1 c1, .slice a2 n2 c2, .slice a3 n3 c3] t m))
    (h0 : TabAt b1 b2 w a0 n0 c0 V0) (h1 : TabAt b2 b3 w a1 n1 c1 V1) (h2 : TabAt b3 b4 w a2 n2 c2 V2) (h3 : TabAt b4 b5 w a3 n3 c3 V3) :
    Calls Try.prog 41 #[.slice (some ⟨bL, 0, none⟩) 4 cL] w fun e w' => e = .returned (.bool true) ∧ ∃ T : List Nat, (∀ x ∈ T, b1 ≤ x) ∧ Chg T w w' := by
  obtain ⟨Q, hQ⟩ : ∃ Q : Nat → IR, Q = four ⟨a0, n0, c0⟩ ⟨a1, n1, c1⟩ ⟨a2, n2, c2⟩ ⟨a3, n3, c3⟩ := ⟨_, rfl⟩
  obtain ⟨V, hV⟩ : ∃ V : Nat → List Is, V = four V0 V1 V2 V3 := ⟨_, rfl⟩
  obtain ⟨lo, hlo⟩ : ∃ f : Nat → Nat, f = four b1 b2 b3 b4 := ⟨_, rfl⟩
  obtain ⟨hi, hhi⟩ : ∃ f : Nat → Nat, f = four b2 b3 b4 b5 := ⟨_, rfl⟩
  have hT : ∀ j, j < 4 → TabAt (lo j) (hi j) w (Q j).a (Q j).n (Q j).c (V j) := fun j hj => by
    rcases (show j = 0 ∨ j = 1 ∨ j = 2 ∨ j = 3 by omega) with rfl | rfl | rfl | rfl <;> subst hQ <;> subst hV <;> subst hlo <;> subst hhi
    · exact h0
    · exact h1
    · exact h2
    · exact h3
  have hbd : ∀ j, j < 4 → b1 ≤ lo j ∧ hi j ≤ b5 := fun j hj => by
    rcases (show j = 0 ∨ j = 1 ∨ j = 2 ∨ j = 3 by omega) with rfl | rfl | rfl | rfl <;> subst hlo <;> subst hhi <;> simp [four] <;> omega
  have hcells : ∀ j, j < 4 → w.cell? ⟨bL, 0 + j, none⟩ = some (Q j).v := fun j hj => by
    rw [Nat.zero_add]
    rcases (show j = 0 ∨ j = 1 ∨ j = 2 ∨ j = 3 by omega) with rfl | rfl | rfl | rfl <;> subst hQ <;> rw [cell_of_cells hL] <;> rfl
  have hlt : ∀ i j, i < j → j < 4 → hi i ≤ lo j := fun i j hij hj => by
    subst hlo; subst hhi
    rcases (show (i = 0 ∧ j = 1) ∨ (i = 0 ∧ j = 2) ∨ (i = 0 ∧ j = 3) ∨ (i = 1 ∧ j = 2) ∨ (i = 1 ∧ j = 3) ∨ (i = 2 ∧ j = 3) by omega) with ⟨rfl, rfl⟩ | ⟨rfl, rfl⟩ | ⟨rfl, rfl⟩ | ⟨rfl, rfl⟩ | ⟨rfl, rfl⟩ | ⟨rfl, rfl⟩ <;> simp [four] <;> omega
  clear hQ hV hlo hhi h0 h1 h2 h3 hL
  obtain ⟨T, hTd⟩ : ∃ T, T = (allL V 4).filterMap Is.own ++ ((Q 0).blk.toList ++ ((Q 1).blk.toList ++ ((Q 2).blk.toList ++ (Q 3).blk.toList))) := ⟨_, rfl⟩
  have hblk : ∀ j, j < 4 → ∀ x, (Q j).blk = some x → lo j ≤ x ∧ x < hi j := fun j hj x hx => (hT j hj).top x hx
  have hTr : ∀ x ∈ T, b1 ≤ x ∧ x < b5 := fun x hx => by
    rw [hTd, allL_four] at hx
    simp only [List.mem_append, List.mem_filterMap, Option.mem_toList] at hx
    rcases hx with ⟨p, hp, hx⟩ | hx | hx | hx | hx
    · rcases hp with hp | hp | hp | hp
      · have := (hT 0 (by decide)).inn p hp x hx; have := hbd 0 (by decide); omega
      · have := (hT 1 (by decide)).inn p hp x hx; have := hbd 1 (by decide); omega
      · have := (hT 2 (by decide)).inn p hp x hx; have := hbd 2 (by decide); omega
      · have := (hT 3 (by decide)).inn p hp x hx; have := hbd 3 (by decide); omega
    · have := hblk 0 (by decide) x hx; have := hbd 0 (by decide); omega
    · have := hblk 1 (by decide) x hx; have := hbd 1 (by decide); omega
    · have := hblk 2 (by decide) x hx; have := hbd 2 (by decide); omega
    · have := hblk 3 (by decide) x hx; have := hbd 3 (by decide); omega
  have hap : ∀ i j, i < j → j < 4 → ∀ p ∈ V i, ∀ q ∈ V j, ∀ x, p.own = some x → q.own ≠ some x := fun i j hij hj p hp q hq x hx hy => by
    have := (hT i (by omega)).inn p hp x hx
    have := (hT j hj).inn q hq x hy
    have := hlt i j hij hj
    omega
  refine (ApartIntRows4_any w bL 0 cL Q V T hcells (fun h => by have := hTr _ h; omega) hcL (fun j hj => ⟨(hT j hj).own.base (Nat.zero_le _), (hT j hj).len, (hT j hj).few.1, (hT j hj).few.2⟩) (fun j hj p hp x hx => ?_) (fun j hj x hx => ?_) ?_ (fun i j hi' hj' hij x hx hy => ?_)).mono fun e w' h => ⟨h.1, T, fun x hx => (hTr x hx).1, h.2⟩
  · rw [hTd, allL_four]
    simp only [List.mem_append, List.mem_filterMap, Option.mem_toList]
    rcases (show j = 0 ∨ j = 1 ∨ j = 2 ∨ j = 3 by omega) with rfl | rfl | rfl | rfl
    · exact .inl ⟨p, .inl hp, hx⟩
    · exact .inl ⟨p, .inr (.inl hp), hx⟩
    · exact .inl ⟨p, .inr (.inr (.inl hp)), hx⟩
    · exact .inl ⟨p, .inr (.inr (.inr hp)), hx⟩
  · rw [hTd]
    simp only [List.mem_append, List.mem_filterMap, Option.mem_toList]
    rcases (show j = 0 ∨ j = 1 ∨ j = 2 ∨ j = 3 by omega) with rfl | rfl | rfl | rfl
    · exact .inr (.inl hx)
    · exact .inr (.inr (.inl hx))
    · exact .inr (.inr (.inr (.inl hx)))
    · exact .inr (.inr (.inr (.inr hx)))
  · rw [allL_four]
    simp only [List.pairwise_append, List.mem_append]
    refine ⟨(hT 0 (by decide)).own.apart, ⟨(hT 1 (by decide)).own.apart, ⟨(hT 2 (by decide)).own.apart, (hT 3 (by decide)).own.apart, hap 2 3 (by decide) (by decide)⟩, ?_⟩, ?_⟩
    · rintro p hp q (hq | hq)
      · exact hap 1 2 (by decide) (by decide) p hp q hq
      · exact hap 1 3 (by decide) (by decide) p hp q hq
    · rintro p hp q (hq | hq | hq)
      · exact hap 0 1 (by decide) (by decide) p hp q hq
      · exact hap 0 2 (by decide) (by decide) p hp q hq
      · exact hap 0 3 (by decide) (by decide) p hp q hq
  · have h1 := hblk i hi' x hx
    have h2 := hblk j hj' x hy
    rcases Nat.lt_or_ge i j with h | h
    · have := hlt i j h hj'; omega
    · have := hlt j i (by omega) hi'; omega
end Go.Proofs.Ytplpboknmhgpiaa

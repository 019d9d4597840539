/-
  SeedDoes: what the two stores tell, told by their plain rows; how large these grow.
  Conditions: none.
-/
import Derived.Test.YtffjfkjlahdedaaSnsSc1
import Derived.Test.YtffjfkjlahdedaaSnsGKit
set_option linter.unusedVariables false
set_option linter.unusedSimpArgs false
set_option linter.unnecessarySimpa false
namespace Go.Proofs.Ytffjfkjlahdedaa
open Go.RowKit Go.MapKept

theorem row_up {w : World} {B e size n : Nat} {v : Value} {xs : List Value} (h : w.ownsRow 0 e size v n xs) (hB : ∀ k, v.ownBlock = some k → B ≤ k) : w.ownsRow B e size v n xs := by
  refine ⟨h.1, ?_⟩
  rcases h.2 with h2 | ⟨g, cap, cur, rfl, _, h3⟩
  · exact .inl h2
  · exact .inr ⟨g, cap, cur, rfl, hB g (by simp [Value.ownBlock]), h3⟩
theorem readSQ (NB b : Nat) (w : World) (B : Nat) (s : St) (h : SQ NB b w B s) (r p k : Int) (hr : I64 r) (hp : I64 p) :
    Calls Try.prog 12 #[.pointer (some ⟨B, 0, none⟩), .int .i64 r, .int .i64 p, .int .i64 k] w fun e w' => ∃ ta tc, e = .returned (.tuple #[.agg #[.int .i64 (Found.e (s.read (r, p) k).1), .int .i64 (Found.l (s.read (r, p) k).1), .slice ta (Found.t (s.read (r, p) k).1).length tc], .int .i64 (s.read (r, p) k).2]) ∧ w'.ownsRow w.heap.size 33 5 (.slice ta (Found.t (s.read (r, p) k).1).length tc) (Found.t (s.read (r, p) k).1).length (twCells (Found.t (s.read (r, p) k).1)) ∧ Chg [] w w' := by
  obtain ⟨v, m, h1, h2⟩ := h
  refine (Read_any w B m v s (r, p) k h1 hr hp).mono fun e w' hp => ?_
  obtain ⟨v', g1, g2, g3⟩ := hp
  cases hx : (s.read (r, p) k).1 with
  | none =>
    rw [hx] at g2
    have g2' : v' = .agg #[.int .i64 0, .int .i64 0, .slice none 0 0] := g2
    subst g2'
    exact ⟨none, 0, g1, World.ownsRow_nil _ _ _ _, g3⟩
  | some x =>
    obtain ⟨e0, l0, t0⟩ := x
    rw [hx] at g2
    obtain ⟨a, c, rfl, ht, hf⟩ := g2
    exact ⟨a, c, g1, row_up ht.1 hf, g3⟩
theorem readRQ (NB b : Nat) (w : World) (B : Nat) (s : St) (h : RQ NB b w B s) (r p k : Int) :
    Calls Try.prog 42 #[.pointer (some ⟨B, 0, none⟩), .int .i64 r, .int .i64 p, .int .i64 k] w fun e w' => ∃ rr pp bb ta tc, e = .returned (.tuple #[.agg #[.int .i64 rr, .int .i64 pp, .bool bb, .int .i64 (Found.e (s.read (r, p) k).1), .int .i64 (Found.l (s.read (r, p) k).1), .slice ta (Found.t (s.read (r, p) k).1).length tc], .int .i64 (s.read (r, p) k).2]) ∧ w'.ownsRow 0 33 5 (.slice ta (Found.t (s.read (r, p) k).1).length tc) (Found.t (s.read (r, p) k).1).length (twCells (Found.t (s.read (r, p) k).1)) ∧ Chg [] w w' := by
  obtain ⟨a, c, l, h1, rfl, h3⟩ := h
  refine (readR_any w B a c l h1 (r, p) k).mono fun e w' hp => ?_
  obtain ⟨rr, pp, bb, ta, tc, g1, g2, g3⟩ := hp
  exact ⟨rr, pp, bb, ta, tc, g1, g2.1.1, g3⟩
theorem lenSQ (NB b : Nat) (w : World) (B : Nat) (s : St) (h : SQ NB b w B s) :
    Calls Try.prog 13 #[.pointer (some ⟨B, 0, none⟩)] w fun r w' => r = .returned (.int .i64 s.length) ∧ Chg [] w w' := by
  obtain ⟨v, m, h1, h2⟩ := h
  refine (Len_any w B m v s h1).mono fun r w' hp => ?_
  obtain ⟨rfl, rfl⟩ := hp
  exact ⟨rfl, Chg.refl _ _⟩
theorem lastSQ (NB b : Nat) (w : World) (B : Nat) (s : St) (h : SQ NB b w B s) (hs : s.length ≤ 1000000) :
    Calls Try.prog 14 #[.pointer (some ⟨B, 0, none⟩)] w fun r w' => r = .returned (.tuple #[.int .i64 (lastPair s).1, .int .i64 (lastPair s).2, .bool (!s.isEmpty)]) ∧ Chg [] w w' := by
  obtain ⟨v, m, h1, h2⟩ := h
  exact Last_any w B m v s h1 (by omega)
def ToldL (zs : List Int) (n : Nat) (w : World) (a : Option Addr) (c : Nat) : Prop := n = zs.length ∧ FreshInts 0 w a c zs
theorem liveSQ (NB b : Nat) (w : World) (B : Nat) (s : St) (place : Int) (h : SQ NB b w B s) (hs : s.length ≤ 1000000) :
    Calls Try.prog 15 #[.pointer (some ⟨B, 0, none⟩), .int .i64 place] w fun r w' => ∃ a n c, r = .returned (.slice a n c) ∧ ToldL (sorted (rulesAt s place)) n w' a c ∧ Chg [] w w' := by
  obtain ⟨v, m, h1, h2⟩ := h
  refine (Live_any w B m v s place h1 (by omega)).mono fun r w' hp => ?_
  obtain ⟨a, c, g1, g2, g3, g4⟩ := hp
  exact ⟨a, _, c, g1, ⟨rfl, g2⟩, g4⟩
theorem liveRQ (NB b : Nat) (w : World) (B : Nat) (s : St) (place : Int) (h : RQ NB b w B s) (hs : s.length ≤ 100000) :
    Calls Try.prog 41 #[.pointer (some ⟨B, 0, none⟩), .int .i64 place] w fun r w' => ∃ a n c, r = .returned (.slice a n c) ∧ ToldL (sorted (rulesAt s place)) n w' a c ∧ Chg [] w w' := by
  obtain ⟨a, c, l, h1, rfl, h3⟩ := h
  refine (liveR_any w B a c l h1 (by rwa [rss_len] at hs) place).mono fun r w' hp => ?_
  obtain ⟨a, c, g1, g2, g3, g4⟩ := hp
  exact ⟨a, _, c, g1, ⟨rfl, g2⟩, g4⟩
theorem sameInts_self (w : World) (a b : Option Addr) (n c m d' : Nat) (xs : List Int) (hn : n = xs.length) (hm : m = xs.length) (hs : n ≤ 9223372036854775807) (hx : Ints w a xs) (hy : Ints w b xs) :
    Calls Try.prog 40 #[.slice a n c, .slice b m d'] w fun e w' => e = .returned (.bool true) ∧ Chg [] w w' := by
  have h := sameInts_any w a b n c m d' xs xs hn hm hs hx hy
  rwa [show decide (xs = xs) = true from decide_eq_true rfl] at h
/-- What holds of the plain rows behind k deeds. -/
structure GoodT (k : Nat) (s : St) : Prop where
  few : s.length ≤ k
  ends : ∀ x ∈ s, Found.e x.2 ≤ 1099511627776 + k ∧ -9223372036854775808 ≤ Found.e x.2
  lv : ∀ x ∈ s, -1099511627776 ≤ Found.l x.2 ∧ Found.l x.2 ≤ 1099511627776
  tw : ∀ x ∈ s, (Found.t x.2).length ≤ 2000
theorem GoodT.nil : GoodT 0 [] := ⟨Nat.le_refl _, by simp, by simp, by simp⟩
theorem GoodT.mono {k m : Nat} {s : St} (h : GoodT k s) (hk : k ≤ m) : GoodT m s :=
  ⟨Nat.le_trans h.few hk, fun x hx => by have := h.ends x hx; omega, h.lv, h.tw⟩
theorem GoodT.begin {k : Nat} {s : St} (h : GoodT k s) (q : Int × Int) : GoodT (k + 1) (if q ∈ s.map (·.1) then s else s ++ [(q, none)]) := by
  split
  · exact h.mono (Nat.le_succ _)
  · have h' := h.mono (Nat.le_succ k)
    refine ⟨by rw [List.length_append]; have := h.few; simp; omega, fun x hx => ?_, fun x hx => ?_, fun x hx => ?_⟩
    all_goals
      rcases List.mem_append.1 hx with hx | hx
    · exact h'.ends x hx
    · simp only [List.mem_singleton] at hx; subst hx; simp only [Found.e]; omega
    · exact h'.lv x hx
    · simp only [List.mem_singleton] at hx; subst hx; simp only [Found.l]; omega
    · exact h'.tw x hx
    · simp only [List.mem_singleton] at hx; subst hx; simp [Found.t]
theorem GoodT.pop {k : Nat} {s : St} (h : GoodT k s) : GoodT (k + 1) s.dropLast :=
  ⟨by rw [List.length_dropLast]; have := h.few; omega, fun x hx => (h.mono (Nat.le_succ k)).ends x ((List.dropLast_sublist _).subset hx), fun x hx => h.lv x ((List.dropLast_sublist _).subset hx), fun x hx => h.tw x ((List.dropLast_sublist _).subset hx)⟩
theorem GoodT.grow {k : Nat} {s : St} (h : GoodT k s) {e l : Int} {t : List Tw} (he : e ≤ 1099511627776 + (k + 1 : Nat) ∧ -9223372036854775808 ≤ e) (hl : -1099511627776 ≤ l ∧ l ≤ 1099511627776) (ht : t.length ≤ 2000) : GoodT (k + 1) (s.grow e l t) := by
  have h' := h.mono (Nat.le_succ k)
  unfold St.grow
  cases hg : s.getLast? with
  | none => exact h'
  | some x =>
    obtain ⟨q, f⟩ := x
    have hm := List.mem_of_getLast? hg
    have hne : s ≠ [] := fun e => by subst e; cases hg
    simp only [growSt]
    have key : ∀ x ∈ s.dropLast ++ [(q, if mayGrow f e l = true then some (e, l, t) else f)], x ∈ s ∨ x = (q, some (e, l, t)) := fun x hx => by
      rcases List.mem_append.1 hx with hx | hx
      · exact .inl ((List.dropLast_sublist _).subset hx)
      · simp only [List.mem_singleton] at hx
        subst hx
        split
        · exact .inr rfl
        · exact .inl hm
    refine ⟨by rw [List.length_append, List.length_dropLast]; have := h'.few; have := List.length_pos_iff.2 hne; simp; omega, fun x hx => ?_, fun x hx => ?_, fun x hx => ?_⟩
    · rcases key x hx with hx | rfl
      · exact h'.ends x hx
      · exact he
    · rcases key x hx with hx | rfl
      · exact h'.lv x hx
      · exact hl
    · rcases key x hx with hx | rfl
      · exact h'.tw x hx
      · exact ht
theorem read_tw {k : Nat} {s : St} (h : GoodT k s) (q : Int × Int) (j : Int) : (Found.t (s.read q j).1).length ≤ 2000 := by
  unfold St.read
  cases hg : s.get q with
  | none => simp [Found.t]
  | some f =>
    cases f with
    | none => simp [Found.t]
    | some x =>
      obtain ⟨e, l, t⟩ := x
      simp only
      split
      · have hm : (q, some (e, l, t)) ∈ s := by
          unfold St.get at hg
          cases hf : s.find? (fun x => x.1 = q) with
          | none => rw [hf] at hg; cases hg
          | some y =>
            rw [hf] at hg
            simp only [Option.map_some, Option.some.injEq] at hg
            have h1 := List.mem_of_find?_eq_some hf
            have h2 := List.find?_some hf
            simp only [decide_eq_true_eq] at h2
            have : y = (q, some (e, l, t)) := Prod.ext h2 hg
            rw [← this]; exact h1
        exact h.tw _ hm
      · simp [Found.t]
end Go.Proofs.Ytffjfkjlahdedaa

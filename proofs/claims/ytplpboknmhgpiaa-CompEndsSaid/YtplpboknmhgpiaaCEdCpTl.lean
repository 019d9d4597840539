/-
  Four tables, made one behind the other, lie apart: ApartIntRows says so, and writes over them alone.
  Conditions: each has at most 64 rows; the rows are not too long.
-/
import Derived.Test.YtplpboknmhgpiaaCEdCpAp
import Derived.Test.YtplpboknmhgpiaaCEdCpMr
import Derived.Test.YtplpboknmhgpiaaCEdCpLn
import Derived.Test.YtplpboknmhgpiaaCEdCpRq
import Derived.Test.YtplpboknmhgpiaaCEdCpRt
import Derived.Test.YtplpboknmhgpiaaCEdCpAw
set_option linter.unusedVariables false
set_option linter.unusedSimpArgs false
set_option linter.unnecessarySimpa false
namespace Go.Proofs.Ytplpboknmhgpiaa
open Go.RowKit Go.MapKept Go.Shelf

/-- Few rows, none of them long. -/
def Few (x : List (List Int)) : Prop := x.length ≤ 64 ∧ ∀ l ∈ x, l.length ≤ 1000000
theorem few_nil : Few [] := ⟨by simp, by simp⟩
theorem few_ints {L : List (List Nat)} (h : L.length ≤ 64) (hr : ∀ l ∈ L, l.length ≤ 64) : Few (Cp.intsG L) := by
  refine ⟨by rw [Cp.intsG_len]; exact h, fun l hl => ?_⟩
  unfold Cp.intsG at hl
  obtain ⟨m, hm, rfl⟩ := List.mem_map.1 hl
  have := hr m hm
  simp; omega
theorem few_parts (X : List (List Int)) : Few (Cp.partsI X) := by
  unfold Cp.partsI
  cases h : Cp.rightI X with
  | false => simpa using few_nil
  | true =>
    rw [if_pos rfl]
    have hG := Cp.right_RG h
    refine few_ints (Cp.place_small hG 0).2.2 (fun l hl => ?_)
    obtain ⟨p, hp, rfl⟩ := List.getElem_of_mem hl
    rw [(Cp.told hG).rows p hp]
    have h1 := List.length_filter_le (fun i => decide (Cp.placeR (Cp.partsR (Cp.toG X)) i = (p : Int))) (List.range (Cp.toG X).length)
    have h2 : (Cp.toG X).length ≤ 64 := by
      unfold Cp.rightI at h
      rw [Bool.and_eq_true] at h
      rw [Cp.toG_len]; exact of_decide_eq_true h.1
    rw [List.length_range] at h1
    omega
theorem few_turn (X : List (List Int)) : Few (Cp.turnI X) := by
  unfold Cp.turnI
  cases h : Cp.rightI X with
  | false => simpa using few_nil
  | true =>
    rw [if_pos rfl]
    have h2 : (Cp.toG X).length ≤ 64 := by
      unfold Cp.rightI at h
      rw [Bool.and_eq_true] at h
      rw [Cp.toG_len]; exact of_decide_eq_true h.1
    refine few_ints (by rw [Cp.turn_len]; exact h2) (fun l hl => ?_)
    unfold Cp.turnR at hl
    obtain ⟨b, hb, rfl⟩ := List.mem_map.1 hl
    have h1 := List.length_filter_le (fun a => (Cp.row (Cp.toG X) a).contains b) (List.range (Cp.toG X).length)
    rw [List.length_range] at h1
    omega

/-- A table of one's own whose blocks lie between two places. -/
structure TabAt (lo hi : Nat) (w : World) (a : Option Addr) (n c : Nat) (VS : List Is) : Prop where
  own : OwnIs lo w a c VS
  len : n = VS.length
  inn : ∀ p ∈ VS, ∀ b, p.own = some b → lo ≤ b ∧ b < hi
  top : ∀ b, (Value.slice a n c).ownBlock = some b → lo ≤ b ∧ b < hi
  few : VS.length ≤ 64 ∧ ∀ p ∈ VS, p.2.2.length ≤ 1000000
theorem TabAt.of {lo : Nat} {w : World} {a : Option Addr} {n c : Nat} {VS : List Is} {x : List (List Int)} (h : OwnIs lo w a c VS) (hn : n = VS.length) (hx : VS.map (·.2.2) = x) (hf : Few x) : TabAt lo w.heap.size w a n c VS := by
  subst hn
  refine ⟨h, rfl, fun p hp b hb => ?_, fun b hb => ?_, by have := hf.1; rw [← hx, List.length_map] at this; exact this, fun p hp => hf.2 _ (by rw [← hx]; exact List.mem_map.2 ⟨p, hp, rfl⟩)⟩
  · have := row_beyond (h.each p hp) hb; exact ⟨this.1, this.2.1⟩
  · have := row_beyond h.row hb; exact ⟨this.1, this.2.1⟩
theorem TabAt.chg0 {lo hi : Nat} {w w' : World} {a : Option Addr} {n c : Nat} {VS : List Is} (h : TabAt lo hi w a n c VS) (hc : Chg [] w w') : TabAt lo hi w' a n c VS := ⟨h.own.chg0 hc, h.len, h.inn, h.top, h.few⟩

theorem allL_four (VS : Nat → List Is) : allL VS 4 = VS 0 ++ (VS 1 ++ (VS 2 ++ VS 3)) := by
  show allL VS (3 + 1) = _
  rw [allL_succ, show allL VS 3 = allL VS (2 + 1) from rfl, allL_succ, show allL VS 2 = allL VS (1 + 1) from rfl, allL_succ, show allL VS 1 = allL VS (0 + 1) from rfl, allL_succ, show allL VS 0 = [] from rfl]
  simp [List.append_assoc]

def four {α : Type} (x0 x1 x2 x3 : α) (j : Nat) : α := if j = 0 then x0 else if j = 1 then x1 else if j = 2 then x2 else x3
theorem four_all {α : Type} {P : Nat → α → Prop} {x0 x1 x2 x3 : α} (h0 : P 0 x0) (h1 : P 1 x1) (h2 : P 2 x2) (h3 : P 3 x3) : ∀ j, j < 4 → P j (four x0 x1 x2 x3 j) := fun j hj => by
  rcases (show j = 0 ∨ j = 1 ∨ j = 2 ∨ j = 3 by omega) with rfl | rfl | rfl | rfl
  · exact h0
  · exact h1
  · exact h2
  · exact h3

theorem apartTabs_any (w : World) (b1 b2 b3 b4 b5 bL cL : Nat) (t : TypeId) (m : Nat × Nat) (hb : b1 ≤ b2 ∧ b2 ≤ b3 ∧ b3 ≤ b4 ∧ b4 ≤ b5 ∧ b5 ≤ bL) (hcL : 4 ≤ cL ∧ cL ≤ maxLen)
    {a0 a1 a2 a3 : Option Addr} {n0 n1 n2 n3 c0 c1 c2 c3 : Nat} {V0 V1 V2 V3 : List Is}
    (hL : w.heap[bL]? = some (.cells #[.slice a0 n0 c0, .slice a1 n1 c1, .slice a2 n2 c2, .slice a3 n3 c3] t m))
    (h0 : TabAt b1 b2 w a0 n0 c0 V0) (h1 : TabAt b2 b3 w a1 n1 c1 V1) (h2 : TabAt b3 b4 w a2 n2 c2 V2) (h3 : TabAt b4 b5 w a3 n3 c3 V3) :
    Calls Try.prog 41 #[.slice (some ⟨bL, 0, none⟩) 4 cL] w fun e w' => e = .returned (.bool true) ∧ ∃ T : List Nat, (∀ x ∈ T, b1 ≤ x) ∧ Chg T w w' := by
  obtain ⟨Q, hQ⟩ : ∃ Q : Nat → IR, Q = four ⟨a0, n0, c0⟩ ⟨a1, n1, c1⟩ ⟨a2, n2, c2⟩ ⟨a3, n3, c3⟩ := ⟨_, rfl⟩
  obtain ⟨V, hV⟩ : ∃ V : Nat → List Is, V = four V0 V1 V2 V3 := ⟨_, rfl⟩
  obtain ⟨lo, hlo⟩ : ∃ f : Nat → Nat, f = four b1 b2 b3 b4 := ⟨_, rfl⟩
  obtain ⟨hi, hhi⟩ : ∃ f : Nat → Nat, f = four b2 b3 b4 b5 := ⟨_, rfl⟩
  have hT : ∀ j, j < 4 → TabAt (lo j) (hi j) w (Q j).a (Q j).n (Q j).c (V j) := fun j hj => by
    rcases (show j = 0 ∨ j = 1 ∨ j = 2 ∨ j = 3 by omega) with rfl | rfl | rfl | rfl <;> subst hQ <;> subst hV <;> subst hlo <;> subst hhi
    · exact h0
    · exact h1
    · exact h2
    · exact h3
  have hbd : ∀ j, j < 4 → b1 ≤ lo j ∧ hi j ≤ b5 := fun j hj => by
    rcases (show j = 0 ∨ j = 1 ∨ j = 2 ∨ j = 3 by omega) with rfl | rfl | rfl | rfl <;> subst hlo <;> subst hhi <;> simp [four] <;> omega
  have hcells : ∀ j, j < 4 → w.cell? ⟨bL, 0 + j, none⟩ = some (Q j).v := fun j hj => by
    rw [Nat.zero_add]
    rcases (show j = 0 ∨ j = 1 ∨ j = 2 ∨ j = 3 by omega) with rfl | rfl | rfl | rfl <;> subst hQ <;> rw [cell_of_cells hL] <;> rfl
  have hlt : ∀ i j, i < j → j < 4 → hi i ≤ lo j := fun i j hij hj => by
    subst hlo; subst hhi
    rcases (show (i = 0 ∧ j = 1) ∨ (i = 0 ∧ j = 2) ∨ (i = 0 ∧ j = 3) ∨ (i = 1 ∧ j = 2) ∨ (i = 1 ∧ j = 3) ∨ (i = 2 ∧ j = 3) by omega) with ⟨rfl, rfl⟩ | ⟨rfl, rfl⟩ | ⟨rfl, rfl⟩ | ⟨rfl, rfl⟩ | ⟨rfl, rfl⟩ | ⟨rfl, rfl⟩ <;> simp [four] <;> omega
  clear hQ hV hlo hhi h0 h1 h2 h3 hL
  obtain ⟨T, hTd⟩ : ∃ T, T = (allL V 4).filterMap Is.own ++ ((Q 0).blk.toList ++ ((Q 1).blk.toList ++ ((Q 2).blk.toList ++ (Q 3).blk.toList))) := ⟨_, rfl⟩
  have hblk : ∀ j, j < 4 → ∀ x, (Q j).blk = some x → lo j ≤ x ∧ x < hi j := fun j hj x hx => (hT j hj).top x hx
  have hTr : ∀ x ∈ T, b1 ≤ x ∧ x < b5 := fun x hx => by
    rw [hTd, allL_four] at hx
    simp only [List.mem_append, List.mem_filterMap, Option.mem_toList] at hx
    rcases hx with ⟨p, hp, hx⟩ | hx | hx | hx | hx
    · rcases hp with hp | hp | hp | hp
      · have := (hT 0 (by decide)).inn p hp x hx; have := hbd 0 (by decide); omega
      · have := (hT 1 (by decide)).inn p hp x hx; have := hbd 1 (by decide); omega
      · have := (hT 2 (by decide)).inn p hp x hx; have := hbd 2 (by decide); omega
      · have := (hT 3 (by decide)).inn p hp x hx; have := hbd 3 (by decide); omega
    · have := hblk 0 (by decide) x hx; have := hbd 0 (by decide); omega
    · have := hblk 1 (by decide) x hx; have := hbd 1 (by decide); omega
    · have := hblk 2 (by decide) x hx; have := hbd 2 (by decide); omega
    · have := hblk 3 (by decide) x hx; have := hbd 3 (by decide); omega
  have hap : ∀ i j, i < j → j < 4 → ∀ p ∈ V i, ∀ q ∈ V j, ∀ x, p.own = some x → q.own ≠ some x := fun i j hij hj p hp q hq x hx hy => by
    have := (hT i (by omega)).inn p hp x hx
    have := (hT j hj).inn q hq x hy
    have := hlt i j hij hj
    omega
  refine (ApartIntRows4_any w bL 0 cL Q V T hcells (fun h => by have := hTr _ h; omega) hcL (fun j hj => ⟨(hT j hj).own.base (Nat.zero_le _), (hT j hj).len, (hT j hj).few.1, (hT j hj).few.2⟩) (fun j hj p hp x hx => ?_) (fun j hj x hx => ?_) ?_ (fun i j hi' hj' hij x hx hy => ?_)).mono fun e w' h => ⟨h.1, T, fun x hx => (hTr x hx).1, h.2⟩
  · rw [hTd, allL_four]
    simp only [List.mem_append, List.mem_filterMap, Option.mem_toList]
    rcases (show j = 0 ∨ j = 1 ∨ j = 2 ∨ j = 3 by omega) with rfl | rfl | rfl | rfl
    · exact .inl ⟨p, .inl hp, hx⟩
    · exact .inl ⟨p, .inr (.inl hp), hx⟩
    · exact .inl ⟨p, .inr (.inr (.inl hp)), hx⟩
    · exact .inl ⟨p, .inr (.inr (.inr hp)), hx⟩
  · rw [hTd]
    simp only [List.mem_append, List.mem_filterMap, Option.mem_toList]
    rcases (show j = 0 ∨ j = 1 ∨ j = 2 ∨ j = 3 by omega) with rfl | rfl | rfl | rfl
    · exact .inr (.inl hx)
    · exact .inr (.inr (.inl hx))
    · exact .inr (.inr (.inr (.inl hx)))
    · exact .inr (.inr (.inr (.inr hx)))
  · rw [allL_four]
    simp only [List.pairwise_append, List.mem_append]
    refine ⟨(hT 0 (by decide)).own.apart, ⟨(hT 1 (by decide)).own.apart, ⟨(hT 2 (by decide)).own.apart, (hT 3 (by decide)).own.apart, hap 2 3 (by decide) (by decide)⟩, ?_⟩, ?_⟩
    · rintro p hp q (hq | hq)
      · exact hap 1 2 (by decide) (by decide) p hp q hq
      · exact hap 1 3 (by decide) (by decide) p hp q hq
    · rintro p hp q (hq | hq | hq)
      · exact hap 0 1 (by decide) (by decide) p hp q hq
      · exact hap 0 2 (by decide) (by decide) p hp q hq
      · exact hap 0 3 (by decide) (by decide) p hp q hq
  · have h1 := hblk i hi' x hx
    have h2 := hblk j hj' x hy
    rcases Nat.lt_or_ge i j with h | h
    · have := hlt i j h hj'; omega
    · have := hlt j i (by omega) hi'; omega
end Go.Proofs.Ytplpboknmhgpiaa
set_option linter.unusedVariables false
set_option linter.unusedSimpArgs false
set_option linter.unnecessarySimpa false
namespace Go.Proofs.Ytplpboknmhgpiaa
open Go.RowKit Go.MapKept Go.Shelf

set_option maxRecDepth 100000 in
set_option maxHeartbeats 16000000 in
theorem tells13_any (w : World) (a : Option Addr) (n c : Nat) (VS : List Is) (hn : n = VS.length) (hc : n ≤ c ∧ c ≤ 9223372036854775807) (hd : IntRows w a VS) (h6 : n ≤ 600) (ht : ∀ p ∈ VS, p.2.2.length ≤ 600) (z1 z2 : Int) (i1 : I64 z1) (i2 : I64 z2) :
    Calls Try.prog 20 #[.slice a n c, .int .i64 z1, .int .i64 z2] w fun e w' => e = .returned (.bool true) ∧ Chg [] w w' := by
  obtain ⟨X, hX⟩ : ∃ X, X = VS.map (·.2.2) := ⟨_, rfl⟩
  have hlent := LentIntRows_any w a n c VS hn (by omega) (fun p hp => by have := ht p hp; omega) hd
  have hnX : X.length = n := by rw [hn, hX, List.length_map]
  rw [← hX] at hlent
  have H := Lib.hid (And.intro hn (And.intro hd (And.intro ht (And.intro hX (And.intro hnX hlent)))))
  clear hn hd ht hX hnX hlent
  go_enter Try.func20, Try.ntmps20
  go_wp2_with fail
  refine H.out.2.2.2.2.2.mono ?_
  rintro e w1 ⟨la, lc, US, rfl, hU, hL, hc1⟩
  rw [H.out.2.2.2.2.1]
  have hun : n = US.length := by have := congrArg List.length hU; rw [List.length_map, H.out.2.2.2.2.1] at this; omega
  have hlc := row_cap hL.row
  rw [← hun] at hlc
  have hum : ∀ p ∈ US, p.2.2.length ≤ 1000000 := fun p hp => by
    have h1 : p.2.2 ∈ X := by rw [← hU]; exact List.mem_map.2 ⟨p, hp, rfl⟩
    rw [H.out.2.2.2.1] at h1
    obtain ⟨q, hq, e⟩ := List.mem_map.1 h1
    have := H.out.2.2.1 q hq
    rw [← e]; omega
  have HL := Lib.hid (And.intro hun (And.intro hL.rows (And.intro hU (And.intro hL (And.intro hum (And.intro hc1 (H.out.2.1.keep hc1.kp)))))))
  clear hun hU hL hum hc1
  have C1 : Hid (Chg [] w1 w1) := Lib.hid (Chg.refl _ _)
  go_wp2_with fail
  refine (parts_any w1 la n lc US HL.out.1 hlc (HL.out.2.1.keep C1.out.kp)).mono ?_
  rintro e w2 ⟨pa, pc, pS, rfl, hO, hE, hq⟩
  rw [HL.out.2.2.1] at hE
  have hpc := hO.cap
  obtain ⟨pn, hm⟩ : ∃ m, m = pS.length := ⟨_, rfl⟩
  rw [← hm] at hpc ⊢
  have C2 : Hid (Chg [] w1 w2) := Lib.hid (C1.out.tr hq)
  have D2_2 : Hid (Chg [] w2 w2) := Lib.hid (Chg.refl _ _)
  have Tp := Lib.hid (And.intro (TabAt.of hO hm hE (few_parts X)) (And.intro hE (And.intro hO.rows hm)))
  clear hO hE hm hq
  go_wp2_with fail
  refine (parts_any w2 la n lc US HL.out.1 hlc (HL.out.2.1.keep C2.out.kp)).mono ?_
  rintro e w3 ⟨qa, qc, qS, rfl, hO, hE, hq⟩
  rw [HL.out.2.2.1] at hE
  have hqc := hO.cap
  obtain ⟨qn, hm⟩ : ∃ m, m = qS.length := ⟨_, rfl⟩
  rw [← hm] at hqc ⊢
  have C3 : Hid (Chg [] w1 w3) := Lib.hid (C2.out.tr hq)
  have D3_3 : Hid (Chg [] w3 w3) := Lib.hid (Chg.refl _ _)
  have D2_3 : Hid (Chg [] w2 w3) := Lib.hid (D2_2.out.tr hq)
  have Tq := Lib.hid (And.intro (TabAt.of hO hm hE (few_parts X)) (And.intro hE (And.intro hO.rows hm)))
  clear hO hE hm hq
  go_wp2_with fail
  refine (compTurn_any w3 la n lc US HL.out.1 hlc (HL.out.2.1.keep C3.out.kp)).mono ?_
  rintro e w4 ⟨ta, tc, tS, rfl, hO, hE, hq⟩
  rw [HL.out.2.2.1] at hE
  have htc := hO.cap
  obtain ⟨tn, hm⟩ : ∃ m, m = tS.length := ⟨_, rfl⟩
  rw [← hm] at htc ⊢
  have C4 : Hid (Chg [] w1 w4) := Lib.hid (C3.out.tr hq)
  have D4_4 : Hid (Chg [] w4 w4) := Lib.hid (Chg.refl _ _)
  have D3_4 : Hid (Chg [] w3 w4) := Lib.hid (D3_3.out.tr hq)
  have D2_4 : Hid (Chg [] w2 w4) := Lib.hid (D2_3.out.tr hq)
  have Tt := Lib.hid (And.intro (TabAt.of hO hm hE (few_turn X)) (And.intro hE (And.intro hO.rows hm)))
  clear hO hE hm hq
  go_wp2_with fail
  refine (compTurn_any w4 la n lc US HL.out.1 hlc (HL.out.2.1.keep C4.out.kp)).mono ?_
  rintro e w5 ⟨ua, uc, uS, rfl, hO, hE, hq⟩
  rw [HL.out.2.2.1] at hE
  have huc := hO.cap
  obtain ⟨un, hm⟩ : ∃ m, m = uS.length := ⟨_, rfl⟩
  rw [← hm] at huc ⊢
  have C5 : Hid (Chg [] w1 w5) := Lib.hid (C4.out.tr hq)
  have D5_5 : Hid (Chg [] w5 w5) := Lib.hid (Chg.refl _ _)
  have D4_5 : Hid (Chg [] w4 w5) := Lib.hid (D4_4.out.tr hq)
  have D3_5 : Hid (Chg [] w3 w5) := Lib.hid (D3_4.out.tr hq)
  have D2_5 : Hid (Chg [] w2 w5) := Lib.hid (D2_4.out.tr hq)
  have Tu := Lib.hid (And.intro (TabAt.of hO hm hE (few_turn X)) (And.intro hE (And.intro hO.rows hm)))
  clear hO hE hm hq
  go_wp2_with fail
  refine (rightC_any w5 la n lc US HL.out.1 (by omega) (HL.out.2.1.keep C5.out.kp)).mono ?_
  rintro e w6 ⟨rfl, hq⟩
  rw [HL.out.2.2.1]
  have C6 : Hid (Chg [] w1 w6) := Lib.hid (C5.out.tr hq)
  have D5_6 : Hid (Chg [] w5 w6) := Lib.hid (D5_5.out.tr hq)
  have D4_6 : Hid (Chg [] w4 w6) := Lib.hid (D4_5.out.tr hq)
  have D3_6 : Hid (Chg [] w3 w6) := Lib.hid (D3_5.out.tr hq)
  have D2_6 : Hid (Chg [] w2 w6) := Lib.hid (D2_5.out.tr hq)
  clear hq
  obtain ⟨vr, hvr⟩ : ∃ z, z = Cp.rightI X := ⟨_, rfl⟩
  rw [← hvr]
  have Kvr := Lib.hid hvr
  clear hvr
  go_wp2_with fail
  refine (rightR_any w6 a n c VS H.out.1 (by omega) (HL.out.2.2.2.2.2.2.keep C6.out.kp)).mono ?_
  rintro e w7 ⟨rfl, hq⟩
  rw [← H.out.2.2.2.1]
  have C7 : Hid (Chg [] w1 w7) := Lib.hid (C6.out.tr hq)
  have D5_7 : Hid (Chg [] w5 w7) := Lib.hid (D5_6.out.tr hq)
  have D4_7 : Hid (Chg [] w4 w7) := Lib.hid (D4_6.out.tr hq)
  have D3_7 : Hid (Chg [] w3 w7) := Lib.hid (D3_6.out.tr hq)
  have D2_7 : Hid (Chg [] w2 w7) := Lib.hid (D2_6.out.tr hq)
  clear hq
  rw [← Kvr.out]
  have e1 : (vr != vr) = false := by simp
  go_wp2_with fail
  refine (leadsC_any w7 la n lc US HL.out.1 hlc (HL.out.2.1.keep C7.out.kp) z1 z2 i2 i1).mono ?_
  rintro e w8 ⟨rfl, hq⟩
  rw [HL.out.2.2.1]
  have C8 : Hid (Chg [] w1 w8) := Lib.hid (C7.out.tr hq)
  have D5_8 : Hid (Chg [] w5 w8) := Lib.hid (D5_7.out.tr hq)
  have D4_8 : Hid (Chg [] w4 w8) := Lib.hid (D4_7.out.tr hq)
  have D3_8 : Hid (Chg [] w3 w8) := Lib.hid (D3_7.out.tr hq)
  have D2_8 : Hid (Chg [] w2 w8) := Lib.hid (D2_7.out.tr hq)
  clear hq
  obtain ⟨vl, hvl⟩ : ∃ z, z = Cp.leadsI X z1 z2 := ⟨_, rfl⟩
  rw [← hvl]
  have Kvl := Lib.hid hvl
  clear hvl
  go_wp2_with fail
  refine (refLeadsB_any w8 a n c VS H.out.1 hc (HL.out.2.2.2.2.2.2.keep C8.out.kp) z1 z2 i1 i2).mono ?_
  rintro e w9 ⟨rfl, hq⟩
  rw [← H.out.2.2.2.1]
  have C9 : Hid (Chg [] w1 w9) := Lib.hid (C8.out.tr hq)
  have D5_9 : Hid (Chg [] w5 w9) := Lib.hid (D5_8.out.tr hq)
  have D4_9 : Hid (Chg [] w4 w9) := Lib.hid (D4_8.out.tr hq)
  have D3_9 : Hid (Chg [] w3 w9) := Lib.hid (D3_8.out.tr hq)
  have D2_9 : Hid (Chg [] w2 w9) := Lib.hid (D2_8.out.tr hq)
  clear hq
  rw [← Kvl.out]
  have e2 : (vl != vl) = false := by simp
  go_wp2_with fail
  refine (part_any w9 la n lc US HL.out.1 hlc (HL.out.2.1.keep C9.out.kp) z1 i1).mono ?_
  rintro e w10 ⟨rfl, hq⟩
  rw [HL.out.2.2.1]
  have C10 : Hid (Chg [] w1 w10) := Lib.hid (C9.out.tr hq)
  have D5_10 : Hid (Chg [] w5 w10) := Lib.hid (D5_9.out.tr hq)
  have D4_10 : Hid (Chg [] w4 w10) := Lib.hid (D4_9.out.tr hq)
  have D3_10 : Hid (Chg [] w3 w10) := Lib.hid (D3_9.out.tr hq)
  have D2_10 : Hid (Chg [] w2 w10) := Lib.hid (D2_9.out.tr hq)
  clear hq
  obtain ⟨vp, hvp⟩ : ∃ z, z = Cp.partI X z1 := ⟨_, rfl⟩
  rw [← hvp]
  have Kvp := Lib.hid hvp
  clear hvp
  go_wp2_with fail
  refine (refPart_any w10 a n c VS H.out.1 hc (HL.out.2.2.2.2.2.2.keep C10.out.kp) z1).mono ?_
  rintro e w11 ⟨rfl, hq⟩
  rw [← H.out.2.2.2.1]
  have C11 : Hid (Chg [] w1 w11) := Lib.hid (C10.out.tr hq)
  have D5_11 : Hid (Chg [] w5 w11) := Lib.hid (D5_10.out.tr hq)
  have D4_11 : Hid (Chg [] w4 w11) := Lib.hid (D4_10.out.tr hq)
  have D3_11 : Hid (Chg [] w3 w11) := Lib.hid (D3_10.out.tr hq)
  have D2_11 : Hid (Chg [] w2 w11) := Lib.hid (D2_10.out.tr hq)
  clear hq
  rw [← Kvp.out]
  have e3 : decide (vp = vp) = true := decide_eq_true rfl
  go_wp2_with fail
  refine (ring_any w11 la n lc US HL.out.1 hlc (HL.out.2.1.keep C11.out.kp) z1 i1).mono ?_
  rintro e w12 ⟨rfl, hq⟩
  rw [HL.out.2.2.1]
  have C12 : Hid (Chg [] w1 w12) := Lib.hid (C11.out.tr hq)
  have D5_12 : Hid (Chg [] w5 w12) := Lib.hid (D5_11.out.tr hq)
  have D4_12 : Hid (Chg [] w4 w12) := Lib.hid (D4_11.out.tr hq)
  have D3_12 : Hid (Chg [] w3 w12) := Lib.hid (D3_11.out.tr hq)
  have D2_12 : Hid (Chg [] w2 w12) := Lib.hid (D2_11.out.tr hq)
  clear hq
  obtain ⟨vg, hvg⟩ : ∃ z, z = Cp.ringI X z1 := ⟨_, rfl⟩
  rw [← hvg]
  have Kvg := Lib.hid hvg
  clear hvg
  go_wp2_with fail
  refine (refRing_any w12 a n c VS H.out.1 hc (HL.out.2.2.2.2.2.2.keep C12.out.kp) z1).mono ?_
  rintro e w13 ⟨rfl, hq⟩
  rw [← H.out.2.2.2.1]
  have C13 : Hid (Chg [] w1 w13) := Lib.hid (C12.out.tr hq)
  have D5_13 : Hid (Chg [] w5 w13) := Lib.hid (D5_12.out.tr hq)
  have D4_13 : Hid (Chg [] w4 w13) := Lib.hid (D4_12.out.tr hq)
  have D3_13 : Hid (Chg [] w3 w13) := Lib.hid (D3_12.out.tr hq)
  have D2_13 : Hid (Chg [] w2 w13) := Lib.hid (D2_12.out.tr hq)
  clear hq
  rw [← Kvg.out]
  have e4 : (vg != vg) = false := by simp
  go_wp2_with fail
  refine (refParts_any w13 a n c VS H.out.1 hc (HL.out.2.2.2.2.2.2.keep C13.out.kp)).mono ?_
  rintro e w14 ⟨rpa, rpc, rpS, rfl, hO, hE, hq⟩
  rw [← H.out.2.2.2.1] at hE
  have hrpc := hO.cap
  obtain ⟨rpn, hm⟩ : ∃ m, m = rpS.length := ⟨_, rfl⟩
  rw [← hm] at hrpc ⊢
  have C14 : Hid (Chg [] w1 w14) := Lib.hid (C13.out.tr hq)
  have D5_14 : Hid (Chg [] w5 w14) := Lib.hid (D5_13.out.tr hq)
  have D4_14 : Hid (Chg [] w4 w14) := Lib.hid (D4_13.out.tr hq)
  have D3_14 : Hid (Chg [] w3 w14) := Lib.hid (D3_13.out.tr hq)
  have D2_14 : Hid (Chg [] w2 w14) := Lib.hid (D2_13.out.tr hq)
  have Trp := Lib.hid (And.intro (TabAt.of hO hm hE (few_parts X)) (And.intro hE (And.intro hO.rows hm)))
  clear hO hE hm hq
  go_wp2_with fail
  refine (sameIntRows_any w14 pa rpa pn pc rpn rpc pS rpS Tp.out.2.2.2 Trp.out.2.2.2 (by omega) (by omega) (Tp.out.2.2.1.keep D2_14.out.kp) Trp.out.2.2.1).mono ?_
  rintro e w15 ⟨rfl, hq⟩
  rw [Tp.out.2.1, Trp.out.2.1, decide_eq_true rfl]
  have C15 : Hid (Chg [] w1 w15) := Lib.hid (C14.out.tr hq)
  have D5_15 : Hid (Chg [] w5 w15) := Lib.hid (D5_14.out.tr hq)
  have D4_15 : Hid (Chg [] w4 w15) := Lib.hid (D4_14.out.tr hq)
  have D3_15 : Hid (Chg [] w3 w15) := Lib.hid (D3_14.out.tr hq)
  have D2_15 : Hid (Chg [] w2 w15) := Lib.hid (D2_14.out.tr hq)
  clear hq
  go_wp2_with fail
  refine (refTurn_any w15 a n c VS H.out.1 hc (HL.out.2.2.2.2.2.2.keep C15.out.kp)).mono ?_
  rintro e w16 ⟨rta, rtc, rtS, rfl, hO, hE, hq⟩
  rw [← H.out.2.2.2.1] at hE
  have hrtc := hO.cap
  obtain ⟨rtn, hm⟩ : ∃ m, m = rtS.length := ⟨_, rfl⟩
  rw [← hm] at hrtc ⊢
  have C16 : Hid (Chg [] w1 w16) := Lib.hid (C15.out.tr hq)
  have D5_16 : Hid (Chg [] w5 w16) := Lib.hid (D5_15.out.tr hq)
  have D4_16 : Hid (Chg [] w4 w16) := Lib.hid (D4_15.out.tr hq)
  have D3_16 : Hid (Chg [] w3 w16) := Lib.hid (D3_15.out.tr hq)
  have D2_16 : Hid (Chg [] w2 w16) := Lib.hid (D2_15.out.tr hq)
  have Trt := Lib.hid (And.intro (TabAt.of hO hm hE (few_turn X)) (And.intro hE (And.intro hO.rows hm)))
  clear hO hE hm hq
  go_wp2_with fail
  refine (sameIntRows_any w16 ta rta tn tc rtn rtc tS rtS Tt.out.2.2.2 Trt.out.2.2.2 (by omega) (by omega) (Tt.out.2.2.1.keep D4_16.out.kp) Trt.out.2.2.1).mono ?_
  rintro e w17 ⟨rfl, hq⟩
  rw [Tt.out.2.1, Trt.out.2.1, decide_eq_true rfl]
  have C17 : Hid (Chg [] w1 w17) := Lib.hid (C16.out.tr hq)
  have D5_17 : Hid (Chg [] w5 w17) := Lib.hid (D5_16.out.tr hq)
  have D4_17 : Hid (Chg [] w4 w17) := Lib.hid (D4_16.out.tr hq)
  have D3_17 : Hid (Chg [] w3 w17) := Lib.hid (D3_16.out.tr hq)
  have D2_17 : Hid (Chg [] w2 w17) := Lib.hid (D2_16.out.tr hq)
  clear hq
  go_wp2_with fail
  refine (KeptIntRows_any w17 w.heap.size la a n lc n c US VS HL.out.1 H.out.1 (by omega) HL.out.2.2.2.2.1 (HL.out.2.2.2.1.chg0 C17.out) (HL.out.2.2.2.2.2.2.keep C17.out.kp) (by rw [HL.out.2.2.1, H.out.2.2.2.1])).mono ?_
  rintro e w18 ⟨rfl, hq⟩
  have C18 : Hid (Chg [] w1 w18) := Lib.hid (C17.out.tr hq)
  have D5_18 : Hid (Chg [] w5 w18) := Lib.hid (D5_17.out.tr hq)
  have D4_18 : Hid (Chg [] w4 w18) := Lib.hid (D4_17.out.tr hq)
  have D3_18 : Hid (Chg [] w3 w18) := Lib.hid (D3_17.out.tr hq)
  have D2_18 : Hid (Chg [] w2 w18) := Lib.hid (D2_17.out.tr hq)
  clear hq
  go_wp2_with fail
  obtain ⟨wb, hwb⟩ : ∃ z, z = w18.alloc (.cells #[.slice pa pn pc, .slice qa qn qc, .slice ta tn tc, .slice ua un uc] 22) := ⟨_, rfl⟩
  have hq : Chg [] w18 wb := by rw [hwb]; exact (Chg.refl [] _).alloc _
  have hbb : wb.heap[w18.heap.size]? = some (.cells #[.slice pa pn pc, .slice qa qn qc, .slice ta tn tc, .slice ua un uc] 22 (0, 0)) := by rw [hwb]; exact heap_alloc_same _ _
  rw [← hwb]
  have s2 := C2.out.size
  have s3 := D2_3.out.size
  have s4 := D3_4.out.size
  have s5 := D4_5.out.size
  have s6 := D5_18.out.size
  have hap := apartTabs_any wb w1.heap.size w2.heap.size w3.heap.size w4.heap.size w5.heap.size w18.heap.size 4 _ _ ⟨s2, s3, s4, s5, s6⟩ ⟨Nat.le_refl _, by decide⟩ hbb (Tp.out.1.chg0 (D2_18.out.tr hq)) (Tq.out.1.chg0 (D3_18.out.tr hq)) (Tt.out.1.chg0 (D4_18.out.tr hq)) (Tu.out.1.chg0 (D5_18.out.tr hq))
  have HA := Lib.hid (And.intro hap (C18.out.tr hq))
  clear hap hq hbb hwb s2 s3 s4 s5 s6
  refine HA.out.1.mono ?_
  rintro e w19 ⟨rfl, T, hT, hq⟩
  have C19 : Hid (Chg [] w1 w19) := Lib.hid (HA.out.2.trans hq (fun x hx => .inr (hT x hx)))
  clear hq hT
  go_wp2_with fail
  refine (KeptIntRows_any w19 w.heap.size la a n lc n c US VS HL.out.1 H.out.1 (by omega) HL.out.2.2.2.2.1 (HL.out.2.2.2.1.chg0 C19.out) (HL.out.2.2.2.2.2.2.keep C19.out.kp) (by rw [HL.out.2.2.1, H.out.2.2.2.1])).mono ?_
  rintro e w20 ⟨rfl, hq⟩
  have C20 : Hid (Chg [] w1 w20) := Lib.hid (C19.out.tr hq)
  clear hq
  go_wp2_with fail
  go_ret
  exact ⟨rfl, HL.out.2.2.2.2.2.1.tr C20.out⟩
end Go.Proofs.Ytplpboknmhgpiaa

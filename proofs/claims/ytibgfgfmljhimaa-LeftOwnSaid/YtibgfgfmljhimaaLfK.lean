/-
  Layer 12: how many there are; whether a row has a number; the walk goes to just those that are led to.
  Conditions: none.
-/
import Derived.Test.YtibgfgfmljhimaaLfJ
set_option linter.unusedVariables false
set_option linter.unusedSimpArgs false
set_option linter.unnecessarySimpa false
namespace Go.Proofs.Ytibgfgfmljhimaa
open Go.RowKit Go.MapKept Go.Shelf

set_option maxRecDepth 100000 in
set_option maxHeartbeats 2000000 in
theorem size12_any (w : World) (a1 : Option Addr) (n1 c1 : Nat) (a2 : Option Addr) (n2 c2 : Nat) (g : Gr) (hg : GramAt w a1 n1 c1 a2 n2 c2 g) (hr : Reach g) :
    Calls Try.prog 57 #[.agg #[.slice a1 n1 c1, .slice a2 n2 c2]] w (SizePost g w) := by
  have hb1 : n1 ≤ 17592186044416 := by rw [hg.e1]; exact hr.1
  have hb2 : n2 ≤ 17592186044416 := by rw [hg.e2]; exact hr.2.1
  have HG := Lib.hid (And.intro hg hr)
  clear hg hr
  go_enter Try.func57, Try.ntmps57
  go_wp2_with fail
  go_loop [3, 4] (fun xv kv => ∃ k m : Nat, k ≤ n2 ∧ kv = .int .i64 k ∧ xv = .int .i64 m ∧ m ≤ 70368744177664 ∧ Hid (m = n1 + n2 + kidsSum (g.nodes.take k))) (fun _ kv => n2 - (intOf kv).toNat)
  case atStart => exact ⟨0, n1 + n2, Nat.zero_le _, rfl, by go_num, by omega, Lib.hid (by simp [kidsSum])⟩
  case round =>
    obtain ⟨k, m, hk, rfl, rfl, hm, hin⟩ := hrel
    by_cases hlt : k < n2
    · have hkl : k < g.nodes.length := by have := HG.out.1.e2; omega
      by_cases hm3 : m ≤ 300
      · obtain ⟨b, o, ak, nk, ck, rfl, hx⟩ := HG.out.1.nodes k hkl
        have h8 := hx.kids
        have hkk : nk ≤ 17592186044416 := by rw [hx.len]; exact HG.out.2.2.2 _ (List.getElem_mem hkl)
        have hb8 := World.block_lt_of_cell? _ _ h8
        simp only at hb8
        have HX := Lib.hid hx.len
        clear hx
        go_wp2
        go_round
        case rel =>
          refine ⟨k + 1, m + nk, by omega, by go_num, by go_num, by omega, Lib.hid ?_⟩
          rw [List.take_succ_eq_append_getElem hkl, kidsSum_snoc, ← HX.out, hin.out]
          omega
        case measure => simp [intOf]; omega
      · go_wp2
        go_ret
        refine ⟨_, rfl, fun hs => ?_, fun _ => by omega, (Chg.refl _ _).alloc _⟩
        exfalso
        have h1 := kidsSum_take_le g.nodes k
        have h2 := hin.out
        have h3 := HG.out.1.e1
        have h4 := HG.out.1.e2
        unfold smallG at hs
        omega
    · obtain rfl : k = n2 := by omega
      go_wp2
      go_ret
      have h2 := hin.out
      have h3 := HG.out.1.e1
      have h4 := HG.out.1.e2
      rw [h4, List.take_length] at h2
      refine ⟨_, rfl, fun hs => ?_, fun hs => ?_, (Chg.refl _ _).alloc _⟩
      · unfold smallG at hs; omega
      · unfold smallG at hs; omega


set_option maxRecDepth 100000 in
set_option maxHeartbeats 2000000 in
theorem has_any (w : World) (a : Option Addr) (n c : Nat) (zs : List Int) (hn : n = zs.length) (hs : n ≤ 9223372036854775807) (hz : Ints w a zs) (q : Int) :
    Calls Try.prog 61 #[.slice a n c, .int .i64 q] w fun e w' => e = .returned (.bool (zs.contains q)) ∧ Chg [] w w' := by
  obtain ⟨A, hA⟩ : ∃ A, A = zs.contains q := ⟨_, rfl⟩
  rw [← hA]
  have H := Lib.hid (And.intro hn (And.intro hz hA))
  clear hn hz hA
  go_enter Try.func61, Try.ntmps61
  go_wp2_with fail
  go_loopg [6, 5] n (fun d iv ov wr => ∃ (k : Nat) (o : Bool), d = n - k ∧ k ≤ n ∧ iv = .int .i64 k ∧ ov = .bool o ∧ Hid (o = (zs.take k).contains q) ∧ wr = w)
  case atStart => exact ⟨0, false, rfl, Nat.zero_le _, rfl, rfl, Lib.hid (by simp), rfl⟩
  case round =>
    obtain ⟨k, o, rfl, hk, rfl, rfl, ho, rfl⟩ := hrel
    by_cases hlt : k < n
    · have hk' : k < zs.length := by have := H.out.1; omega
      obtain ⟨b, off, rfl, hc⟩ := H.out.2.1 k hk'
      obtain ⟨z, hz⟩ : ∃ z, z = zs[k] := ⟨_, rfl⟩
      rw [← hz] at hc
      have htk : zs.take (k + 1) = zs.take k ++ [z] := by rw [hz]; exact List.take_succ_eq_append_getElem hk'
      have HT := Lib.hid htk
      clear htk hz hk'
      cases o with
      | true =>
        go_wp2_with fail
        go_roundg (n - (k + 1))
        case measure => omega
        case rel => exact ⟨k + 1, true, rfl, by omega, by go_num, rfl, Lib.hid (by rw [HT.out]; have := ho.out; simp at this ⊢; exact .inl this), rfl⟩
      | false =>
        go_wp2_with fail
        go_roundg (n - (k + 1))
        case measure => omega
        case rel =>
          refine ⟨k + 1, z == q, rfl, by omega, by go_num, rfl, Lib.hid ?_, rfl⟩
          have h1 := ho.out
          rw [HT.out, Bool.eq_iff_iff]
          simp only [List.contains_eq_mem, decide_eq_true_eq, List.mem_append, List.mem_singleton, beq_iff_eq]
          simp only [List.contains_eq_mem, Bool.false_eq, decide_eq_false_iff_not] at h1
          constructor
          · intro e; exact .inr e.symm
          · rintro (h | h)
            · exact absurd h h1
            · exact h.symm
    · obtain rfl : k = n := by omega
      go_wp2_with fail
      go_ret
      have h1 := ho.out
      rw [List.take_of_length_le (by have := H.out.1; omega), ← H.out.2.2] at h1
      rw [← h1]
      exact ⟨rfl, Chg.refl _ _⟩

/-! ### Whom one leads to -/
inductive Tr (G : List (List Int)) : Nat → Nat → Prop
  | one {i k : Nat} (h : (k : Int) ∈ G.getD i []) : Tr G i k
  | step {i z k : Nat} (h : (z : Int) ∈ G.getD i []) (t : Tr G z k) : Tr G i k
theorem Tr.snoc {G : List (List Int)} {i z k : Nat} (t : Tr G i z) (h : (k : Int) ∈ G.getD z []) : Tr G i k := by
  induction t with
  | one h1 => exact .step h1 (.one h)
  | step h1 _ ih => exact .step h1 (ih h)
theorem Tr.last {G : List (List Int)} {i k : Nat} (t : Tr G i k) : (k : Int) ∈ G.getD i [] ∨ ∃ z, Tr G i z ∧ (k : Int) ∈ G.getD z [] := by
  induction t with
  | one h1 => exact .inl h1
  | step h1 _ ih =>
    rcases ih with h | ⟨z, h2, h3⟩
    · exact .inr ⟨_, .one h1, h⟩
    · exact .inr ⟨z, .step h1 h2, h3⟩
def rulesOf (st : Bst) : List Int := st.2.map (·.1)
theorem on1_rules {n : Nat} {st : Bst} (h : BstOk n st) (fr : Int) {z : Int} (h0 : 0 ≤ z) : ∀ x, x ∈ rulesOf (on1 fr z st) ↔ x ∈ rulesOf st ∨ x = z := by
  obtain ⟨q, rfl⟩ : ∃ q : Nat, z = q := ⟨z.toNat, by omega⟩
  intro x
  unfold on1
  rw [Int.toNat_natCast]
  by_cases hm : st.1.getD q false = true
  · rw [if_pos hm]
    have := (h.met q).1 hm
    constructor
    · exact fun h => .inl h
    · rintro (h | rfl)
      · exact h
      · exact this
  · rw [if_neg hm]
    simp [rulesOf]
theorem onL_rules {n : Nat} (fr : Int) : ∀ (zs : List Int) {st : Bst}, BstOk n st → (∀ z ∈ zs, 0 ≤ z ∧ z < n) → ∀ x, x ∈ rulesOf (onL fr zs st) ↔ x ∈ rulesOf st ∨ x ∈ zs := by
  intro zs
  induction zs with
  | nil => intro st h _ x; simp [onL]
  | cons z zs ih =>
    intro st h hz x
    have h1 := hz z (by simp)
    rw [onL, ih (on1_ok h fr h1.1 h1.2) (fun y hy => hz y (by simp [hy])) x, on1_rules h fr h1.1 x]
    simp only [List.mem_cons, or_assoc]
theorem on1_prefix (fr z : Int) (st : Bst) : st.2 <+: (on1 fr z st).2 := by
  unfold on1
  split
  · exact List.prefix_refl _
  · exact List.prefix_append _ _
theorem onL_prefix (fr : Int) : ∀ (zs : List Int) (st : Bst), st.2 <+: (onL fr zs st).2 := by
  intro zs
  induction zs with
  | nil => intro st; exact List.prefix_refl _
  | cons z zs ih => intro st; exact (on1_prefix fr z st).trans (ih _)
/-- The walk ends closed, and with those alone that are led to. -/
theorem walkF_closed {n : Nat} {G : List (List Int)} (hG : GraphOk n G) (i : Nat) : ∀ (d k : Nat) (st : Bst), n - k ≤ d → BstOk n st →
    (∀ x ∈ G.getD i [], x ∈ rulesOf st) → (∀ r : Nat, (r : Int) ∈ rulesOf st → Tr G i r) → (∀ j (h : j < st.2.length), j < k → ∀ x ∈ G.getD st.2[j].1.toNat [], x ∈ rulesOf st) →
    (∀ x ∈ G.getD i [], x ∈ rulesOf (walkF G 33 k st)) ∧ (∀ r : Nat, (r : Int) ∈ rulesOf (walkF G 33 k st) → Tr G i r) ∧ (∀ r : Nat, (r : Int) ∈ rulesOf (walkF G 33 k st) → ∀ x ∈ G.getD r [], x ∈ rulesOf (walkF G 33 k st)) := by
  intro d
  induction d with
  | zero =>
    intro k st hd hok h1 h2 h3
    have hle : st.2.length ≤ k := by have := hok.few_steps; omega
    rw [walkF_end hle]
    refine ⟨h1, h2, fun r hr => ?_⟩
    obtain ⟨s, hs, hsr⟩ := List.mem_map.1 hr
    obtain ⟨j, hj, rfl⟩ := List.mem_iff_getElem.1 hs
    have := h3 j hj (by omega)
    rw [hsr] at this
    exact this
  | succ d ih =>
    intro k st hd hok h1 h2 h3
    by_cases hk : k < st.2.length
    · rw [walkF_next hG hok hk]
      have hrow := hG.at (st.2[k]).1.toNat
      have hr := onL_rules (k : Int) _ hok hrow
      have hpre := onL_prefix (k : Int) (G.getD (st.2[k]).1.toNat []) st
      have hnr := hok.rules _ (List.getElem_mem hk)
      obtain ⟨rk, hrk⟩ : ∃ rk : Nat, (st.2[k]).1 = rk := ⟨(st.2[k]).1.toNat, by omega⟩
      refine ih (k + 1) _ (by have := hok.few_steps; omega) (onL_ok _ _ hok hrow) (fun x hx => (hr x).2 (.inl (h1 x hx))) (fun r hr2 => ?_) (fun j hj hjk x hx => ?_)
      · rcases (hr _).1 hr2 with h | h
        · exact h2 r h
        · refine (h2 rk ?_).snoc (by rw [hrk, Int.toNat_natCast] at h; exact h)
          rw [← hrk]
          exact List.mem_map_of_mem (List.getElem_mem hk)
      · by_cases hjl : j < st.2.length
        · have e : (onL (k : Int) (G.getD (st.2[k]).1.toNat []) st).2[j] = st.2[j] := (hpre.getElem hjl).symm
          rw [e] at hx
          by_cases e2 : j = k
          · subst e2
            exact (hr x).2 (.inr hx)
          · exact (hr x).2 (.inl (h3 j hjl (by omega) x hx))
        · omega
    · have hle : st.2.length ≤ k := by omega
      rw [walkF_end hle]
      refine ⟨h1, h2, fun r hr => ?_⟩
      obtain ⟨s, hs, hsr⟩ := List.mem_map.1 hr
      obtain ⟨j, hj, rfl⟩ := List.mem_iff_getElem.1 hs
      have := h3 j hj (by omega)
      rw [hsr] at this
      exact this
theorem walkL_iff {n : Nat} {G : List (List Int)} (hG : GraphOk n G) (i r : Nat) : (r : Int) ∈ rulesOf (walkL G i) ↔ Tr G i r := by
  have h0 := bst_start hG.few
  have hr := onL_rules (-1) _ h0 (hG.at i)
  have hs : ∀ x, x ∉ rulesOf start0 := fun x h => by simp [rulesOf, start0] at h
  obtain ⟨c1, c2, c3⟩ := walkF_closed hG i n 0 _ (by omega) (onL_ok (-1) _ h0 (hG.at i)) (fun x hx => (hr x).2 (.inr hx)) (fun r hr2 => by
    rcases (hr _).1 hr2 with h | h
    · exact absurd h (hs _)
    · exact .one h) (fun j hj hj0 => by omega)
  have key : ∀ z : Nat, (z : Int) ∈ rulesOf (walkL G i) → Tr G z r → (r : Int) ∈ rulesOf (walkL G i) := by
    intro z hz t
    induction t with
    | one h => exact c3 _ hz _ h
    | step h _ ih => exact ih (c3 _ hz _ h)
  refine ⟨c2 r, fun t => ?_⟩
  cases t with
  | one h => exact c1 _ h
  | step h t => exact key _ (c1 _ h) t
theorem walkL_met {n : Nat} {G : List (List Int)} (hG : GraphOk n G) (i r : Nat) : (walkL G i).1.getD r false = true ↔ Tr G i r := by
  rw [(walkL_ok hG i).met r]
  exact walkL_iff hG i r
/-! ### The told, by whom is led to -/
theorem pickB_mem {bs : List Bool} {m : Nat} : (m : Int) ∈ pickB bs ↔ bs.getD m false = true := by
  simp only [pickB, pickL, List.mem_map, List.mem_filter, List.mem_range]
  constructor
  · rintro ⟨q, ⟨h1, h2⟩, h3⟩
    obtain rfl : q = m := by omega
    exact h2
  · intro h
    by_cases hm : m < bs.length
    · exact ⟨m, ⟨hm, h⟩, rfl⟩
    · rw [List.getD, List.getElem?_eq_none (by omega)] at h
      cases h
theorem toL_mem {g : Gr} (hr : rightB g = true) {i : Nat} (hi : i < g.rules.length) (m : Nat) : (m : Int) ∈ toL g i ↔ Tr (graphG g) i m := by
  rw [toL, if_pos (show inR g i from ⟨by omega, by omega, hr⟩), pickB_mem, Int.toNat_natCast]
  exact walkL_met (graph_ok hr) i m
theorem goesB_iff {g : Gr} (hr : rightB g = true) {i : Nat} (hi : i < g.rules.length) : goesB g i = true ↔ Tr (graphG g) i i := by
  rw [goesB, decide_eq_true (show inR g i from ⟨by omega, by omega, hr⟩), Bool.true_and, Int.toNat_natCast]
  exact walkL_met (graph_ok hr) i i
theorem tr_lt {n : Nat} {G : List (List Int)} (hG : GraphOk n G) {i k : Nat} (t : Tr G i k) : k < n := by
  induction t with
  | one h => have := hG.at _ _ h; omega
  | step _ _ ih => exact ih
theorem toL_in {g : Gr} {i z : Int} (h : z ∈ toL g i) : ∃ q : Nat, z = q ∧ (rightB g = true → q < g.rules.length) := by
  by_cases hin : inR g i
  · rw [toL, if_pos hin] at h
    obtain ⟨q, rfl, h1, h2⟩ := pickL_in h
    refine ⟨q, rfl, fun hr => ?_⟩
    exact tr_lt (graph_ok hr) ((walkL_met (graph_ok hr) i.toNat q).1 h2)
  · rw [toL, if_neg hin] at h
    cases h
theorem toL_len (g : Gr) (i : Int) : (toL g i).length ≤ 32 := by
  unfold toL
  split
  · rename_i h
    have := pickL_le (walkL (graphG g) i.toNat).1.length (fun k => (walkL (graphG g) i.toNat).1.getD k false)
    have h2 := (walkL_ok (graph_ok h.2.2) i.toNat).len
    unfold pickB
    omega
  · simp
end Go.Proofs.Ytibgfgfmljhimaa

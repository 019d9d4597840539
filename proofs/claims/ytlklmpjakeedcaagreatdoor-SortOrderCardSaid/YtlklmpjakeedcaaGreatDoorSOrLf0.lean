/-
  The nodes at a node's own place, and the rules that are called there, as plain data.
  Conditions: none.
-/
import Derived.Test.YtlklmpjakeedcaaGreatDoorSOrGBool
set_option linter.unusedVariables false
set_option linter.unusedSimpArgs false
namespace Go.Proofs.YtlklmpjakeedcaaGreatDoor

def kidsOwn (k : Int) (N : Int → Bool) (F : Int → List Int) : List Int → List Int
  | [] => []
  | z :: zs => F z ++ (if k = 6 ∧ N z = false then [] else kidsOwn k N F zs)
def ownF (ns : List Nd) (N : Int → Bool) : Nat → Int → List Int
  | 0, _ => []
  | f + 1, n => if n < 0 then [] else match ns[n.toNat]? with | none => [] | some x => n :: kidsOwn x.k N (ownF ns N f) x.kids
/-- The nodes at a node's own place, in preorder; N: which may match nothing. -/
def ownN (ns : List Nd) (N : Int → Bool) (n : Int) : List Int := ownF ns N ns.length n
theorem kidsOwn_congr {k : Int} {N M : Int → Bool} {F G : Int → List Int} : ∀ (zs : List Int), (∀ z ∈ zs, F z = G z) → (∀ z ∈ zs, N z = M z) → kidsOwn k N F zs = kidsOwn k M G zs := by
  intro zs
  induction zs with
  | nil => intro _ _; rfl
  | cons z zs ih =>
    intro h1 h2
    simp only [kidsOwn]
    rw [h1 z (by simp), h2 z (by simp), ih (fun q hq => h1 q (by simp [hq])) (fun q hq => h2 q (by simp [hq]))]
theorem ownF_fuel {ns : List Nd} (hf : Falls ns) (N : Int → Bool) : ∀ (d : Nat) (n : Nat) (f g : Nat), ns.length - n ≤ d → ns.length - n ≤ f → ns.length - n ≤ g → ownF ns N f n = ownF ns N g n := by
  intro d
  induction d with
  | zero =>
    intro n f g hd h1 h2
    have hn : ns[n]? = none := List.getElem?_eq_none (by omega)
    have key : ∀ f, ownF ns N f n = [] := fun f => by
      cases f with
      | zero => rfl
      | succ f => simp [ownF, hn]
    rw [key, key]
  | succ d ih =>
    intro n f g hd h1 h2
    by_cases hn : n < ns.length
    · cases f with
      | zero => omega
      | succ f =>
        cases g with
        | zero => omega
        | succ g =>
          have hx : ns[n]? = some ns[n] := List.getElem?_eq_getElem hn
          simp only [ownF, Int.toNat_natCast, hx]
          split
          · rfl
          · congr 1
            refine kidsOwn_congr _ (fun k hk => ?_) (fun _ _ => rfl)
            obtain ⟨k1, k2⟩ := hf n hn k hk
            obtain ⟨j, rfl⟩ : ∃ j : Nat, k = j := ⟨k.toNat, by omega⟩
            exact ih j f g (by omega) (by omega) (by omega)
    · have hn : ns[n]? = none := List.getElem?_eq_none (by omega)
      have key : ∀ f, ownF ns N f n = [] := fun f => by
        cases f with
        | zero => rfl
        | succ f => simp [ownF, hn]
      rw [key, key]
theorem ownN_eq {ns : List Nd} (hf : Falls ns) (N : Int → Bool) {n : Nat} (hn : n < ns.length) : ownN ns N n = (n : Int) :: kidsOwn ns[n].k N (ownN ns N) ns[n].kids := by
  unfold ownN
  rw [ownF_fuel hf N ns.length n ns.length (ns.length + 1) (by omega) (by omega) (by omega)]
  have hx : ns[n]? = some ns[n] := List.getElem?_eq_getElem hn
  simp only [ownF, Int.toNat_natCast, hx, if_neg (show ¬ ((n : Int) < 0) by omega)]
theorem kidsOwn_mem {k : Int} {N : Int → Bool} {F : Int → List Int} {x : Int} : ∀ (zs : List Int), x ∈ kidsOwn k N F zs → ∃ z ∈ zs, x ∈ F z := by
  intro zs
  induction zs with
  | nil => intro h; cases h
  | cons z zs ih =>
    intro h
    simp only [kidsOwn, List.mem_append] at h
    rcases h with h | h
    · exact ⟨z, by simp, h⟩
    · split at h
      · cases h
      · obtain ⟨q, hq, hx⟩ := ih h
        exact ⟨q, by simp [hq], hx⟩
theorem ownN_in {ns : List Nd} (hf : Falls ns) (N : Int → Bool) {n : Nat} (hn : n < ns.length) : ∀ x ∈ ownN ns N n, ∃ q : Nat, x = q ∧ n ≤ q ∧ q < ns.length := by
  have key : ∀ d n, ns.length - n ≤ d → n < ns.length → ∀ x ∈ ownN ns N n, ∃ q : Nat, x = q ∧ n ≤ q ∧ q < ns.length := by
    intro d
    induction d with
    | zero => intro n _ _; omega
    | succ d ih =>
      intro n hd hn x hx
      rw [ownN_eq hf N hn] at hx
      rcases List.mem_cons.1 hx with rfl | hx
      · exact ⟨n, rfl, Nat.le_refl _, hn⟩
      · obtain ⟨z, hz, hx⟩ := kidsOwn_mem _ hx
        obtain ⟨k1, k2⟩ := hf n hn z hz
        obtain ⟨j, rfl⟩ : ∃ j : Nat, z = j := ⟨z.toNat, by omega⟩
        obtain ⟨q, h1, h2, h3⟩ := ih j (by omega) (by omega) x hx
        exact ⟨q, h1, by omega, h3⟩
  exact key _ n (Nat.le_refl _) hn
def ownG (g : Gr) (n : Int) : List Int := ownN g.nodes (mayG g) n

/-! ### The rules that are called -/
def isCall (ns : List Nd) (k : Int) (r : Nat) : Bool := match ns[k.toNat]? with | none => false | some x => decide (x.k = 5) && decide (x.r = r)
/-- Which rules some nodes call. -/
def metL (ns : List Nd) (l : List Int) : List Bool := (List.range 32).map fun r => l.any fun k => isCall ns k r
theorem metL_len (ns : List Nd) (l : List Int) : (metL ns l).length = 32 := by simp [metL]
theorem metL_nil (ns : List Nd) : metL ns [] = List.replicate 32 false := by
  simp only [metL, List.any_nil]
  rfl
theorem isCall_at {ns : List Nd} {q : Nat} (hq : q < ns.length) (r : Nat) : isCall ns q r = (decide (ns[q].k = 5) && decide (ns[q].r = r)) := by
  simp [isCall, List.getElem?_eq_getElem hq]
theorem metL_skip {ns : List Nd} {l : List Int} {q : Nat} (hq : q < ns.length) (hk : ns[q].k ≠ 5) : metL ns (l ++ [(q : Int)]) = metL ns l := by
  refine List.map_congr_left (fun r _ => ?_)
  rw [List.any_append]
  simp [isCall_at hq, hk]
theorem metL_put {ns : List Nd} {l : List Int} {q : Nat} (hq : q < ns.length) (hk : ns[q].k = 5) {r : Nat} (hr : ns[q].r = r) : metL ns (l ++ [(q : Int)]) = (metL ns l).set r true := by
  refine List.ext_getElem (by simp [metL]) (fun i h1 h2 => ?_)
  have hi : i < 32 := by simpa [metL] using h1
  rw [List.getElem_set]
  simp only [metL, List.getElem_map, List.getElem_range, List.any_append, List.any_cons, List.any_nil, Bool.or_false, isCall_at hq, hk, hr]
  by_cases e : r = i
  · subst e; simp
  · have : ¬ ((r : Int) = (i : Int)) := by omega
    simp [e, this]
/-- The rules that a node calls at its own place. -/
def callsG (g : Gr) (n : Int) : List Int := pickL 32 (fun r => (ownG g n).any fun k => isCall g.nodes k r)
/-- What lists of truths tell. -/
def pickB (bs : List Bool) : List Int := pickL bs.length (fun i => bs.getD i false)
theorem callsG_pick (g : Gr) (n : Int) : callsG g n = pickB (metL g.nodes (ownG g n)) := by
  unfold callsG pickB
  rw [metL_len]
  simp only [pickL]
  refine congrArg _ (List.filter_congr (fun i hi => ?_))
  rw [List.mem_range] at hi
  simp [metL, List.getD, hi]
/-- Which nodes may match nothing. -/
def nullB (g : Gr) : List Bool := (List.range g.nodes.length).map fun (j : Nat) => mayG g (j : Int)
theorem nullB_len (g : Gr) : (nullB g).length = g.nodes.length := by simp [nullB]
theorem nullB_at {g : Gr} {j : Nat} (hj : j < g.nodes.length) : (nullB g)[j]? = some (mayG g (j : Int)) := by simp [nullB, hj]
theorem told_null {g : Gr} (hr : rightB g = true) : toldAt g (nodesN g).length = nullB g := by
  apply List.ext_getElem
  · simp [toldAt, nullB]
  · intro i h1 h2
    have hi : i < g.nodes.length := by simpa [toldAt] using h1
    simp only [toldAt, nullB, List.getElem_map, List.getElem_range, List.take_length]
    rw [Bool.eq_iff_iff, decide_eq_true_eq]
    unfold nodesN
    rw [if_pos hr]
    simp only [pickL, List.mem_map, List.mem_filter, List.mem_range]
    constructor
    · rintro ⟨q, ⟨h3, h4⟩, h5⟩
      obtain rfl : q = i := by omega
      exact h4
    · intro h; exact ⟨i, ⟨hi, h⟩, rfl⟩
def graphG (g : Gr) : List (List Int) := if rightB g then g.rules.map (fun r => callsG g r.body) else []
end Go.Proofs.YtlklmpjakeedcaaGreatDoor
set_option linter.unusedVariables false
set_option linter.unusedSimpArgs false
namespace Go.Proofs.YtlklmpjakeedcaaGreatDoor

abbrev Stp := Int × Int
abbrev Bst := List Bool × List Stp
def on1 (fr z : Int) (st : Bst) : Bst := if st.1.getD z.toNat false then st else (st.1.set z.toNat true, st.2 ++ [(z, fr)])
def onL (fr : Int) : List Int → Bst → Bst
  | [], st => st
  | z :: zs, st => onL fr zs (on1 fr z st)
def walkF (G : List (List Int)) : Nat → Nat → Bst → Bst
  | 0, _, st => st
  | f + 1, k, st => match st.2[k]? with | none => st | some s => walkF G f (k + 1) (onL (k : Int) (G.getD s.1.toNat []) st)
def start0 : Bst := (List.replicate 32 false, [])
def walkL (G : List (List Int)) (i : Nat) : Bst := walkF G 33 0 (onL (-1) (G.getD i []) start0)
/-- What holds of each state. -/
structure BstOk (n : Nat) (st : Bst) : Prop where
  len : st.1.length = 32
  rules : ∀ s ∈ st.2, 0 ≤ s.1 ∧ s.1 < n
  nodup : (st.2.map (·.1)).Nodup
  met : ∀ r : Nat, st.1.getD r false = true ↔ (r : Int) ∈ st.2.map (·.1)
  few : n ≤ 32
theorem bst_start {n : Nat} (hn : n ≤ 32) : BstOk n start0 := by
  refine ⟨rfl, by simp [start0], by simp [start0], fun r => ?_, hn⟩
  simp only [start0, List.map_nil, List.not_mem_nil, iff_false, Bool.not_eq_true]
  by_cases h : r < 32
  · rw [List.getD, List.getElem?_replicate, if_pos h]; rfl
  · rw [List.getD, List.getElem?_replicate, if_neg h]; rfl
theorem on1_ok {n : Nat} {st : Bst} (h : BstOk n st) (fr : Int) {z : Int} (h0 : 0 ≤ z) (h1 : z < n) : BstOk n (on1 fr z st) := by
  obtain ⟨q, rfl⟩ : ∃ q : Nat, z = q := ⟨z.toNat, by omega⟩
  unfold on1
  rw [Int.toNat_natCast]
  by_cases hm : st.1.getD q false = true
  · rw [if_pos hm]; exact h
  · rw [if_neg hm]
    have hq : q < 32 := by have := h.few; omega
    refine ⟨by simp [h.len], ?_, ?_, ?_, h.few⟩
    · intro s hs
      rcases List.mem_append.1 hs with hs | hs
      · exact h.rules s hs
      · simp only [List.mem_singleton] at hs
        subst hs
        exact ⟨h0, h1⟩
    · simp only [List.map_append, List.map_cons, List.map_nil]
      rw [List.nodup_append]
      refine ⟨h.nodup, by simp, fun a ha b hb => ?_⟩
      simp only [List.mem_singleton] at hb
      subst hb
      intro e
      subst e
      exact hm ((h.met q).2 ha)
    · intro r
      simp only [List.map_append, List.map_cons, List.map_nil, List.mem_append, List.mem_singleton]
      rw [← h.met r]
      by_cases e : r = q
      · subst e
        simp [List.getD, List.getElem?_set, h.len, hq]
      · have : ¬ ((r : Int) = (q : Int)) := by omega
        simp [List.getD, List.getElem?_set, Ne.symm e, this]
theorem onL_ok {n : Nat} (fr : Int) : ∀ (zs : List Int) {st : Bst}, BstOk n st → (∀ z ∈ zs, 0 ≤ z ∧ z < n) → BstOk n (onL fr zs st) := by
  intro zs
  induction zs with
  | nil => intro st h _; exact h
  | cons z zs ih => intro st h hz; exact ih (on1_ok h fr (hz z (by simp)).1 (hz z (by simp)).2) (fun x hx => hz x (by simp [hx]))
theorem nodup_few {n : Nat} {l : List Int} (hn : l.Nodup) (hl : ∀ x ∈ l, 0 ≤ x ∧ x < n) : l.length ≤ n := by
  have h1 : l ⊆ (List.range n).map (fun (i : Nat) => (i : Int)) := by
    intro x hx
    obtain ⟨h0, h1⟩ := hl x hx
    exact List.mem_map.2 ⟨x.toNat, List.mem_range.2 (by omega), by omega⟩
  have h2 := hn.length_le_of_subset h1
  simpa using h2
theorem BstOk.few_steps {n : Nat} {st : Bst} (h : BstOk n st) : st.2.length ≤ n := by
  have := nodup_few h.nodup (fun x hx => by
    obtain ⟨s, hs, rfl⟩ := List.mem_map.1 hx
    exact h.rules s hs)
  simpa using this
/-- A graph among n numbers. -/
structure GraphOk (n : Nat) (G : List (List Int)) : Prop where
  len : G.length = n
  ins : ∀ zs ∈ G, ∀ z ∈ zs, 0 ≤ z ∧ z < n
  few : n ≤ 32
  rows : ∀ zs ∈ G, zs.length ≤ 32
theorem GraphOk.at {n : Nat} {G : List (List Int)} (h : GraphOk n G) (i : Nat) : ∀ z ∈ G.getD i [], 0 ≤ z ∧ z < n := by
  intro z hz
  by_cases hi : i < G.length
  · rw [List.getD, List.getElem?_eq_getElem hi] at hz
    exact h.ins _ (List.getElem_mem hi) z hz
  · rw [List.getD, List.getElem?_eq_none (by omega)] at hz
    cases hz
theorem walkF_ok {n : Nat} {G : List (List Int)} (hG : GraphOk n G) : ∀ (f k : Nat) {st : Bst}, BstOk n st → BstOk n (walkF G f k st) := by
  intro f
  induction f with
  | zero => intro k st h; exact h
  | succ f ih =>
    intro k st h
    simp only [walkF]
    split
    · exact h
    · exact ih _ (onL_ok _ _ h (hG.at _))
theorem walkL_ok {n : Nat} {G : List (List Int)} (hG : GraphOk n G) (i : Nat) : BstOk n (walkL G i) := walkF_ok hG _ _ (onL_ok _ _ (bst_start hG.few) (hG.at _))
/-- Fuel enough. -/
theorem walkF_fuel {n : Nat} {G : List (List Int)} (hG : GraphOk n G) : ∀ (d k f g : Nat) {st : Bst}, BstOk n st → n - k ≤ d → n - k < f → n - k < g → walkF G f k st = walkF G g k st := by
  intro d
  induction d with
  | zero =>
    intro k f g st h hd hf hg
    cases f with
    | zero => omega
    | succ f =>
      cases g with
      | zero => omega
      | succ g =>
        have hk : st.2[k]? = none := List.getElem?_eq_none (by have := h.few_steps; omega)
        simp only [walkF, hk]
  | succ d ih =>
    intro k f g st h hd hf hg
    cases f with
    | zero => omega
    | succ f =>
      cases g with
      | zero => omega
      | succ g =>
        simp only [walkF]
        cases hk : st.2[k]? with
        | none => rfl
        | some s =>
          have hlt : k < st.2.length := (List.getElem?_eq_some_iff.1 hk).1
          have := h.few_steps
          exact ih (k + 1) f g (onL_ok _ _ h (hG.at _)) (by omega) (by omega) (by omega)
theorem walkF_next {n : Nat} {G : List (List Int)} (hG : GraphOk n G) {k : Nat} {st : Bst} (h : BstOk n st) (hk : k < st.2.length) : walkF G 33 k st = walkF G 33 (k + 1) (onL (k : Int) (G.getD (st.2[k]).1.toNat []) st) := by
  have := h.few_steps
  have := hG.few
  have e : st.2[k]? = some st.2[k] := List.getElem?_eq_getElem hk
  have h1 : walkF G 33 k st = walkF G 32 (k + 1) (onL (k : Int) (G.getD (st.2[k]).1.toNat []) st) := by
    rw [walkF]
    simp only [e]
  rw [h1]
  exact walkF_fuel hG _ (k + 1) 32 33 (onL_ok _ _ h (hG.at _)) (Nat.le_refl _) (by omega) (by omega)
theorem walkF_end {G : List (List Int)} {k : Nat} {st : Bst} (hk : st.2.length ≤ k) : walkF G 33 k st = st := by
  rw [walkF, List.getElem?_eq_none hk]
theorem pickL_in {n : Nat} {F : Nat → Bool} {z : Int} (h : z ∈ pickL n F) : ∃ q : Nat, z = q ∧ q < n ∧ F q = true := by
  simp only [pickL, List.mem_map, List.mem_filter, List.mem_range] at h
  obtain ⟨q, ⟨h1, h2⟩, rfl⟩ := h
  exact ⟨q, rfl, h1, h2⟩
theorem graph_ok {g : Gr} (hr : rightB g = true) : GraphOk g.rules.length (graphG g) := by
  have hs := right_sizes hr
  have e : graphG g = g.rules.map (fun r => callsG g r.body) := by simp [graphG, hr]
  refine ⟨by rw [e]; simp, ?_, hs.2.1, ?_⟩
  · intro zs hzs z hz
    rw [e] at hzs
    obtain ⟨r, hr2, rfl⟩ := List.mem_map.1 hzs
    obtain ⟨q, rfl, hq, hf⟩ := pickL_in hz
    obtain ⟨k, hk, hc⟩ := List.any_eq_true.1 hf
    unfold isCall at hc
    split at hc
    · cases hc
    · rename_i x hx
      simp only [Bool.and_eq_true, decide_eq_true_eq] at hc
      have := right_calls hr x (List.mem_of_getElem? hx) hc.1
      rw [hc.2] at this
      exact this
  · intro zs hzs
    rw [e] at hzs
    obtain ⟨r, hr2, rfl⟩ := List.mem_map.1 hzs
    exact pickL_le _ _
theorem pickL_sorted (n : Nat) (F : Nat → Bool) : (pickL n F).Pairwise (· < ·) := by
  unfold pickL
  rw [List.pairwise_map]
  refine (List.Pairwise.filter _ (List.pairwise_lt_range)).imp ?_
  intro a b h
  omega
theorem mem_pickL {n : Nat} {F : Nat → Bool} {x : Int} : x ∈ pickL n F ↔ ∃ q : Nat, x = q ∧ q < n ∧ F q = true := by
  simp only [pickL, List.mem_map, List.mem_filter, List.mem_range]
  constructor
  · rintro ⟨q, ⟨h1, h2⟩, rfl⟩; exact ⟨q, rfl, h1, h2⟩
  · rintro ⟨q, rfl, h1, h2⟩; exact ⟨q, ⟨h1, h2⟩, rfl⟩
end Go.Proofs.YtlklmpjakeedcaaGreatDoor

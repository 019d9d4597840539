/-
  Layer 12: how many there are; whether a row has a number; the walk goes to just those that are led to.
  Conditions: none.
-/
import Derived.Test.YtibgfgfmljhimaaGreatLeLfJ
import Derived.Test.YtibgfgfmljhimaaGreatLeLf0
set_option linter.unusedVariables false
set_option linter.unusedSimpArgs false
set_option linter.unnecessarySimpa false
namespace Go.Proofs.YtibgfgfmljhimaaGreat
open Go.RowKit Go.MapKept Go.Shelf

/-! ### Whom one leads to -/
inductive Tr (G : List (List Int)) : Nat → Nat → Prop
  | one {i k : Nat} (h : (k : Int) ∈ G.getD i []) : Tr G i k
  | step {i z k : Nat} (h : (z : Int) ∈ G.getD i []) (t : Tr G z k) : Tr G i k
theorem Tr.snoc {G : List (List Int)} {i z k : Nat} (t : Tr G i z) (h : (k : Int) ∈ G.getD z []) : Tr G i k := by
  induction t with
  | one h1 => exact .step h1 (.one h)
  | step h1 _ ih => exact .step h1 (ih h)
theorem Tr.last {G : List (List Int)} {i k : Nat} (t : Tr G i k) : (k : Int) ∈ G.getD i [] ∨ ∃ z, Tr G i z ∧ (k : Int) ∈ G.getD z [] := by
  induction t with
  | one h1 => exact .inl h1
  | step h1 _ ih =>
    rcases ih with h | ⟨z, h2, h3⟩
    · exact .inr ⟨_, .one h1, h⟩
    · exact .inr ⟨z, .step h1 h2, h3⟩
def rulesOf (st : Bst) : List Int := st.2.map (·.1)
theorem on1_rules {n : Nat} {st : Bst} (h : BstOk n st) (fr : Int) {z : Int} (h0 : 0 ≤ z) : ∀ x, x ∈ rulesOf (on1 fr z st) ↔ x ∈ rulesOf st ∨ x = z := by
  obtain ⟨q, rfl⟩ : ∃ q : Nat, z = q := ⟨z.toNat, by omega⟩
  intro x
  unfold on1
  rw [Int.toNat_natCast]
  by_cases hm : st.1.getD q false = true
  · rw [if_pos hm]
    have := (h.met q).1 hm
    constructor
    · exact fun h => .inl h
    · rintro (h | rfl)
      · exact h
      · exact this
  · rw [if_neg hm]
    simp [rulesOf]
theorem onL_rules {n : Nat} (fr : Int) : ∀ (zs : List Int) {st : Bst}, BstOk n st → (∀ z ∈ zs, 0 ≤ z ∧ z < n) → ∀ x, x ∈ rulesOf (onL fr zs st) ↔ x ∈ rulesOf st ∨ x ∈ zs := by
  intro zs
  induction zs with
  | nil => intro st h _ x; simp [onL]
  | cons z zs ih =>
    intro st h hz x
    have h1 := hz z (by simp)
    rw [onL, ih (on1_ok h fr h1.1 h1.2) (fun y hy => hz y (by simp [hy])) x, on1_rules h fr h1.1 x]
    simp only [List.mem_cons, or_assoc]
theorem on1_prefix (fr z : Int) (st : Bst) : st.2 <+: (on1 fr z st).2 := by
  unfold on1
  split
  · exact List.prefix_refl _
  · exact List.prefix_append _ _
theorem onL_prefix (fr : Int) : ∀ (zs : List Int) (st : Bst), st.2 <+: (onL fr zs st).2 := by
  intro zs
  induction zs with
  | nil => intro st; exact List.prefix_refl _
  | cons z zs ih => intro st; exact (on1_prefix fr z st).trans (ih _)
/-- The walk ends closed, and with those alone that are led to. -/
theorem walkF_closed {n : Nat} {G : List (List Int)} (hG : GraphOk n G) (i : Nat) : ∀ (d k : Nat) (st : Bst), n - k ≤ d → BstOk n st →
    (∀ x ∈ G.getD i [], x ∈ rulesOf st) → (∀ r : Nat, (r : Int) ∈ rulesOf st → Tr G i r) → (∀ j (h : j < st.2.length), j < k → ∀ x ∈ G.getD st.2[j].1.toNat [], x ∈ rulesOf st) →
    (∀ x ∈ G.getD i [], x ∈ rulesOf (walkF G 33 k st)) ∧ (∀ r : Nat, (r : Int) ∈ rulesOf (walkF G 33 k st) → Tr G i r) ∧ (∀ r : Nat, (r : Int) ∈ rulesOf (walkF G 33 k st) → ∀ x ∈ G.getD r [], x ∈ rulesOf (walkF G 33 k st)) := by
  intro d
  induction d with
  | zero =>
    intro k st hd hok h1 h2 h3
    have hle : st.2.length ≤ k := by have := hok.few_steps; omega
    rw [walkF_end hle]
    refine ⟨h1, h2, fun r hr => ?_⟩
    obtain ⟨s, hs, hsr⟩ := List.mem_map.1 hr
    obtain ⟨j, hj, rfl⟩ := List.mem_iff_getElem.1 hs
    have := h3 j hj (by omega)
    rw [hsr] at this
    exact this
  | succ d ih =>
    intro k st hd hok h1 h2 h3
    by_cases hk : k < st.2.length
    · rw [walkF_next hG hok hk]
      have hrow := hG.at (st.2[k]).1.toNat
      have hr := onL_rules (k : Int) _ hok hrow
      have hpre := onL_prefix (k : Int) (G.getD (st.2[k]).1.toNat []) st
      have hnr := hok.rules _ (List.getElem_mem hk)
      obtain ⟨rk, hrk⟩ : ∃ rk : Nat, (st.2[k]).1 = rk := ⟨(st.2[k]).1.toNat, by omega⟩
      refine ih (k + 1) _ (by have := hok.few_steps; omega) (onL_ok _ _ hok hrow) (fun x hx => (hr x).2 (.inl (h1 x hx))) (fun r hr2 => ?_) (fun j hj hjk x hx => ?_)
      · rcases (hr _).1 hr2 with h | h
        · exact h2 r h
        · refine (h2 rk ?_).snoc (by rw [hrk, Int.toNat_natCast] at h; exact h)
          rw [← hrk]
          exact List.mem_map_of_mem (List.getElem_mem hk)
      · by_cases hjl : j < st.2.length
        · have e : (onL (k : Int) (G.getD (st.2[k]).1.toNat []) st).2[j] = st.2[j] := (hpre.getElem hjl).symm
          rw [e] at hx
          by_cases e2 : j = k
          · subst e2
            exact (hr x).2 (.inr hx)
          · exact (hr x).2 (.inl (h3 j hjl (by omega) x hx))
        · omega
    · have hle : st.2.length ≤ k := by omega
      rw [walkF_end hle]
      refine ⟨h1, h2, fun r hr => ?_⟩
      obtain ⟨s, hs, hsr⟩ := List.mem_map.1 hr
      obtain ⟨j, hj, rfl⟩ := List.mem_iff_getElem.1 hs
      have := h3 j hj (by omega)
      rw [hsr] at this
      exact this
theorem walkL_iff {n : Nat} {G : List (List Int)} (hG : GraphOk n G) (i r : Nat) : (r : Int) ∈ rulesOf (walkL G i) ↔ Tr G i r := by
  have h0 := bst_start hG.few
  have hr := onL_rules (-1) _ h0 (hG.at i)
  have hs : ∀ x, x ∉ rulesOf start0 := fun x h => by simp [rulesOf, start0] at h
  obtain ⟨c1, c2, c3⟩ := walkF_closed hG i n 0 _ (by omega) (onL_ok (-1) _ h0 (hG.at i)) (fun x hx => (hr x).2 (.inr hx)) (fun r hr2 => by
    rcases (hr _).1 hr2 with h | h
    · exact absurd h (hs _)
    · exact .one h) (fun j hj hj0 => by omega)
  have key : ∀ z : Nat, (z : Int) ∈ rulesOf (walkL G i) → Tr G z r → (r : Int) ∈ rulesOf (walkL G i) := by
    intro z hz t
    induction t with
    | one h => exact c3 _ hz _ h
    | step h _ ih => exact ih (c3 _ hz _ h)
  refine ⟨c2 r, fun t => ?_⟩
  cases t with
  | one h => exact c1 _ h
  | step h t => exact key _ (c1 _ h) t
theorem walkL_met {n : Nat} {G : List (List Int)} (hG : GraphOk n G) (i r : Nat) : (walkL G i).1.getD r false = true ↔ Tr G i r := by
  rw [(walkL_ok hG i).met r]
  exact walkL_iff hG i r
/-! ### The told, by whom is led to -/
theorem goesB_iff {g : Gr} (hr : rightB g = true) {i : Nat} (hi : i < g.rules.length) : goesB g i = true ↔ Tr (graphG g) i i := by
  rw [goesB, decide_eq_true (show inR g i from ⟨by omega, by omega, hr⟩), Bool.true_and, Int.toNat_natCast]
  exact walkL_met (graph_ok hr) i i
theorem toL_len (g : Gr) (i : Int) : (toL g i).length ≤ 32 := by
  unfold toL
  split
  · rename_i h
    have := pickL_le (walkL (graphG g) i.toNat).1.length (fun k => (walkL (graphG g) i.toNat).1.getD k false)
    have h2 := (walkL_ok (graph_ok h.2.2) i.toNat).len
    unfold pickB
    omega
  · simp
end Go.Proofs.YtibgfgfmljhimaaGreat
set_option linter.unusedVariables false
set_option linter.unusedSimpArgs false
set_option linter.unnecessarySimpa false
namespace Go.Proofs.YtibgfgfmljhimaaGreat

/-! ### A tree's kids, one behind the other -/
def Cov (E : Nat → Nat) (len : Nat) : List Int → Nat → Nat → Prop
  | [], a, e => a = e
  | k :: ks, a, e => k = (a : Int) ∧ a < len ∧ a < E a ∧ Cov E len ks (E a) e
theorem Cov.le {E : Nat → Nat} {len : Nat} : ∀ {ks : List Int} {a e : Nat}, Cov E len ks a e → a ≤ e := by
  intro ks
  induction ks with
  | nil => intro a e h; exact Nat.le_of_eq h
  | cons k ks ih => intro a e h; obtain ⟨_, _, h1, h2⟩ := h; have := ih h2; omega
theorem Cov.mem {E : Nat → Nat} {len : Nat} : ∀ {ks : List Int} {a e : Nat}, Cov E len ks a e → ∀ z ∈ ks, ∃ q : Nat, z = q ∧ q < len ∧ a ≤ q ∧ q < E q ∧ E q ≤ e := by
  intro ks
  induction ks with
  | nil => intro a e _ z hz; cases hz
  | cons k ks ih =>
    intro a e h z hz
    obtain ⟨h0, h1, h2, h3⟩ := h
    rcases List.mem_cons.1 hz with rfl | hz
    · exact ⟨a, h0, h1, Nat.le_refl _, h2, h3.le⟩
    · obtain ⟨q, e1, e2, e3, e4, e5⟩ := ih h3 z hz
      exact ⟨q, e1, e2, by omega, e4, e5⟩
theorem Cov.find {E : Nat → Nat} {len : Nat} : ∀ {ks : List Int} {a e : Nat}, Cov E len ks a e → ∀ j, a ≤ j → j < e → ∃ q : Nat, (q : Int) ∈ ks ∧ q ≤ j ∧ j < E q := by
  intro ks
  induction ks with
  | nil => intro a e h j h1 h2; have : a = e := h; omega
  | cons k ks ih =>
    intro a e h j h1 h2
    obtain ⟨h0, _, _, h3⟩ := h
    by_cases hj : j < E a
    · exact ⟨a, by simp [h0], h1, hj⟩
    · obtain ⟨q, q1, q2, q3⟩ := ih h3 j (by omega) h2
      exact ⟨q, by simp [q1], q2, q3⟩
/-- A tree of nodes. -/
structure TreeOk (ns : List Nd) (E : Nat → Nat) : Prop where
  cov : ∀ n (h : n < ns.length), Cov E ns.length ns[n].kids (n + 1) (E n)
  le : ∀ n, n < ns.length → n < E n ∧ E n ≤ ns.length
theorem TreeOk.falls {ns : List Nd} {E : Nat → Nat} (h : TreeOk ns E) : Falls ns := fun n hn k hk => by
  obtain ⟨q, rfl, h1, h2, _⟩ := (h.cov n hn).mem k hk
  omega
theorem kidsOwn_sorted {E : Nat → Nat} {len : Nat} {k : Int} {N : Int → Bool} {F : Int → List Int} : ∀ {ks : List Int} {a e : Nat}, Cov E len ks a e → (∀ q : Nat, (q : Int) ∈ ks → (F q).Pairwise (· < ·) ∧ ∀ x ∈ F q, (q : Int) ≤ x ∧ x < E q) →
    (kidsOwn k N F ks).Pairwise (· < ·) ∧ ∀ x ∈ kidsOwn k N F ks, (a : Int) ≤ x ∧ x < e := by
  intro ks
  induction ks with
  | nil => intro a e _ _; exact ⟨.nil, fun x hx => by cases hx⟩
  | cons z ks ih =>
    intro a e h hF
    obtain ⟨rfl, h1, h2, h3⟩ := h
    have hz := hF a (by simp)
    obtain ⟨i1, i2⟩ := ih h3 (fun q hq => hF q (by simp [hq]))
    have hle := h3.le
    simp only [kidsOwn]
    constructor
    · rw [List.pairwise_append]
      refine ⟨hz.1, ?_, fun x hx y hy => ?_⟩
      · split
        · exact .nil
        · exact i1
      · split at hy
        · cases hy
        · have := i2 y hy
          have := hz.2 x hx
          omega
    · intro x hx
      rcases List.mem_append.1 hx with hx | hx
      · have := hz.2 x hx; omega
      · split at hx
        · cases hx
        · have := i2 x hx; omega
theorem ownN_sorted {ns : List Nd} {E : Nat → Nat} (h : TreeOk ns E) (N : Int → Bool) : ∀ (d n : Nat), ns.length - n ≤ d → n < ns.length → (ownN ns N n).Pairwise (· < ·) ∧ ∀ x ∈ ownN ns N n, (n : Int) ≤ x ∧ x < E n := by
  intro d
  induction d with
  | zero => intro n _ _; omega
  | succ d ih =>
    intro n hd hn
    rw [ownN_eq h.falls N hn]
    have hk := kidsOwn_sorted (k := ns[n].k) (N := N) (F := ownN ns N) (h.cov n hn) (fun q hq => by
      obtain ⟨y, y1, y2, y3, _⟩ := (h.cov n hn).mem _ hq
      obtain rfl : y = q := by omega
      exact ih y (by omega) y2)
    have hle := h.le n hn
    refine ⟨List.pairwise_cons.2 ⟨fun x hx => by have := hk.2 x hx; omega, hk.1⟩, fun x hx => ?_⟩
    rcases List.mem_cons.1 hx with rfl | hx
    · omega
    · have := hk.2 x hx; omega
/-! ### Marks -/
theorem TreeOk.nodup {ns : List Nd} {E : Nat → Nat} (h : TreeOk ns E) {m : Nat} (hm : m < ns.length) : ns[m].kids.Nodup := by
  have key : ∀ (ks : List Int) (a e : Nat), Cov E ns.length ks a e → ks.Nodup := by
    intro ks
    induction ks with
    | nil => intro a e _; exact .nil
    | cons k ks ih =>
      intro a e hc
      obtain ⟨rfl, _, h2, h3⟩ := hc
      refine List.nodup_cons.2 ⟨fun hm => ?_, ih _ _ h3⟩
      obtain ⟨q, q1, _, q3, _⟩ := h3.mem _ hm
      omega
  exact key _ _ _ (h.cov m hm)
/-! ### A rising row is what it picks -/
theorem sorted_ext : ∀ {l m : List Int}, l.Pairwise (· < ·) → m.Pairwise (· < ·) → (∀ x, x ∈ l ↔ x ∈ m) → l = m := by
  intro l
  induction l with
  | nil =>
    intro m _ _ h
    cases m with
    | nil => rfl
    | cons b m => exact absurd ((h b).2 (by simp)) (by simp)
  | cons a l ih =>
    intro m hl hm h
    cases m with
    | nil => exact absurd ((h a).1 (by simp)) (by simp)
    | cons b m =>
      rw [List.pairwise_cons] at hl hm
      have e : a = b := by
        have h1 := (h a).1 (by simp)
        have h2 := (h b).2 (by simp)
        rcases List.mem_cons.1 h1 with h1 | h1
        · exact h1
        · rcases List.mem_cons.1 h2 with h2 | h2
          · exact h2.symm
          · have := hl.1 b h2
            have := hm.1 a h1
            omega
      subst e
      congr 1
      refine ih hl.2 hm.2 fun x => ?_
      constructor
      · intro hx
        rcases List.mem_cons.1 ((h x).1 (by simp [hx])) with h1 | h1
        · have := hl.1 x hx; omega
        · exact h1
      · intro hx
        rcases List.mem_cons.1 ((h x).2 (by simp [hx])) with h1 | h1
        · have := hm.1 x hx; omega
        · exact h1
theorem ownN_pick {ns : List Nd} {E : Nat → Nat} (h : TreeOk ns E) (N : Int → Bool) {n : Nat} (hn : n < ns.length) : ownN ns N n = pickL ns.length (fun j => decide ((j : Int) ∈ ownN ns N n)) := by
  refine sorted_ext (ownN_sorted h N ns.length n (by omega) hn).1 (pickL_sorted _ _) fun x => ?_
  rw [mem_pickL]
  constructor
  · intro hx
    obtain ⟨q, rfl, _, h2⟩ := ownN_in h.falls N hn x hx
    exact ⟨q, rfl, h2, by simpa using hx⟩
  · rintro ⟨q, rfl, _, h2⟩
    simpa using h2
/-! ### A right grammar is a tree -/
theorem kidsAft_cov {F : Nat → Option (Nat × Nat)} {E : Nat → Nat} {len : Nat} (hF : ∀ n e h, F n = some (e, h) → e = E n ∧ n < len ∧ n < e) : ∀ {ks : List Int} {next high e hh : Nat}, kidsAft F ks next high = some (e, hh) → Cov E len ks next e := by
  intro ks
  induction ks with
  | nil => intro next high e hh h; simp only [kidsAft, Option.some.injEq, Prod.mk.injEq] at h; exact h.1
  | cons k ks ih =>
    intro next high e hh h
    simp only [kidsAft] at h
    split at h
    · rename_i hk
      split at h
      · cases h
      · rename_i to h' hf
        obtain ⟨rfl, h1, h2⟩ := hF _ _ _ hf
        exact ⟨hk, h1, h2, ih h⟩
    · cases h
def endsG (g : Gr) (n : Nat) : Nat := n + (sizeG g n).toNat
theorem right_tree {g : Gr} (hr : rightB g = true) : TreeOk g.nodes (endsG g) := by
  obtain ⟨t, ht, _, _⟩ := right_tab hr
  have hsz : ∀ n, n < g.nodes.length → ∃ z h', 1 ≤ z ∧ endsG g n = n + z ∧ aft g.nodes 16 n = some (n + z, h') := by
    intro n hn
    obtain ⟨z, h', h1, h2, _, _, h5⟩ := right_aft ht hn
    refine ⟨z, h', h2, ?_, h5⟩
    unfold endsG sizeG
    rw [ht]
    simp only
    rw [if_pos (by omega), Int.toNat_natCast, Int.toNat_natCast, h1]
    simp
  refine ⟨fun n hn => ?_, fun n hn => ?_⟩
  · obtain ⟨z, h', h1, h2, h3⟩ := hsz n hn
    rw [h2]
    rw [show (16 : Nat) = 15 + 1 from rfl, aft, List.getElem?_eq_getElem hn] at h3
    refine kidsAft_cov (fun m e h hm => ?_) h3
    have hm16 := aft_mono (show 15 ≤ 16 by omega) hm
    have hml : m < g.nodes.length := by
      cases hx : g.nodes[m]? with
      | none => rw [show (16 : Nat) = 15 + 1 from rfl, aft, hx] at hm16; cases hm16
      | some x => exact (List.getElem?_eq_some_iff.1 hx).1
    obtain ⟨z', h'', k1, k2, k3⟩ := hsz m hml
    rw [k3] at hm16
    simp only [Option.some.injEq, Prod.mk.injEq] at hm16
    omega
  · obtain ⟨z, h', h1, h2, h3⟩ := hsz n hn
    rw [h2]
    have := (aft_cover h3).1
    omega
end Go.Proofs.YtibgfgfmljhimaaGreat
set_option linter.unusedVariables false
set_option linter.unusedSimpArgs false
set_option linter.unnecessarySimpa false
namespace Go.Proofs.YtibgfgfmljhimaaGreat

/-! ### A segment stands elsewhere -/
/-! ### A byte ahead: none is called -/
/-! ### Nothing ahead, looked at: the same are called -/
end Go.Proofs.YtibgfgfmljhimaaGreat

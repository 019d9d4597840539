/-
  How far numbers of a graph lie apart, and the next one on a shortest way, as plain data.
  Conditions: the rows rise.
-/
import Derived.Test.YtibgfgfmljhimaaGreatLeLfW
set_option linter.unusedVariables false
set_option linter.unusedSimpArgs false
set_option linter.unnecessarySimpa false
namespace Go.Proofs.YtibgfgfmljhimaaGreat

/-- How many steps a number is away from another, at least; -1: it can't come there. -/
def dstI (G : List (List Int)) (k j : Nat) : Int := if j = k then 0 else ((wayI G j k).length : Int) - 1
theorem dstI_self (G : List (List Int)) (k : Nat) : dstI G k k = 0 := if_pos rfl
theorem dstI_ge (G : List (List Int)) (k j : Nat) : -1 ≤ dstI G k j := by unfold dstI; split <;> omega
/-- A way's first step. -/
theorem way_first {n : Nat} {G : List (List Int)} (hG : GraphOk n G) (hr : ∀ zs ∈ G, zs.Pairwise (· < ·)) {i k : Nat} {v : Int} {q : List Int} (h : wayI G i k = (i : Int) :: v :: q) :
    v ∈ G.getD i [] ∧ dstI G k v.toNat = q.length ∧ (q = [] → v = k) ∧ (q ≠ [] → v ≠ k ∧ wayI G v.toNat k = v :: q) ∧ ∀ z ∈ G.getD i [], 0 ≤ dstI G k z.toNat → (q.length : Int) < dstI G k z.toNat ∨ (q.length : Int) = dstI G k z.toNat ∧ v ≤ z := by
  obtain ⟨v', q', e, hv, hl, hw⟩ := wayI_shape hG hr (i := i) (k := (k : Int)) (by rw [h]; simp)
  rw [h] at e
  simp only [List.cons.injEq, true_and] at e
  obtain ⟨rfl, rfl⟩ := e
  have hvn := hG.at i v hv
  have h1 : q = [] → v = k := fun hq => by subst hq; simpa using hl
  have h2 : q ≠ [] → v ≠ k ∧ wayI G v.toNat k = v :: q := fun hq => by
    refine ⟨fun e => ?_, hw hq⟩
    have := (wayI_least hG hr h hv).1 e
    have := List.length_pos_iff.2 hq
    omega
  refine ⟨hv, ?_, h1, h2, fun z hz h0 => ?_⟩
  · by_cases hq : q = []
    · have := h1 hq
      subst this
      rw [hq]
      simp [dstI]
    · obtain ⟨h3, h4⟩ := h2 hq
      unfold dstI
      rw [if_neg (by omega), h4]
      simp
  · have hzn := hG.at i z hz
    obtain ⟨l1, l2⟩ := wayI_least hG hr h hz
    by_cases e : z.toNat = k
    · have e2 : z = k := by omega
      have := l1 e2
      rw [e, dstI_self]
      right
      have : q.length = 0 := by omega
      omega
    · unfold dstI at h0 ⊢
      rw [if_neg e] at h0 ⊢
      have := l2 (fun h9 => by rw [h9] at h0; simp at h0)
      have : (wayI G z.toNat k).length ≠ 1 := fun h9 => by
        obtain ⟨v3, q3, e3, _⟩ := wayI_shape hG hr (i := z.toNat) (k := (k : Int)) (fun h8 => by rw [h8] at h9; cases h9)
        rw [e3] at h9; simp at h9
      omega
theorem way_none {n : Nat} {G : List (List Int)} (hG : GraphOk n G) (hr : ∀ zs ∈ G, zs.Pairwise (· < ·)) {i k : Nat} : wayI G i k = [] ↔ ∀ z ∈ G.getD i [], dstI G k z.toNat < 0 := by
  constructor
  · intro h z hz
    have hzn := hG.at i z hz
    have hnt : ¬ Tr G i k := fun t => (wayI_tr hG hr).2 t h
    unfold dstI
    split
    · rename_i e
      exact absurd (Tr.one (by rw [show ((k : Nat) : Int) = z by omega]; exact hz)) hnt
    · by_cases h9 : wayI G z.toNat k = []
      · rw [h9]; simp
      · exact absurd (Tr.step (by rw [show ((z.toNat : Nat) : Int) = z by omega]; exact hz) ((wayI_tr hG hr).1 h9)) hnt
  · intro h
    by_cases h9 : wayI G i k = []
    · exact h9
    · obtain ⟨v, q, e, _⟩ := wayI_shape hG hr h9
      obtain ⟨a, b, _⟩ := way_first hG hr e
      have := h v a
      omega
theorem way_len {n : Nat} {G : List (List Int)} (hG : GraphOk n G) (hr : ∀ zs ∈ G, zs.Pairwise (· < ·)) {i k : Nat} (h : wayI G i k ≠ []) : ∃ v q, wayI G i k = (i : Int) :: v :: q := by
  obtain ⟨v, q, e, _⟩ := wayI_shape hG hr h
  exact ⟨v, q, e⟩
/-- Of what the distance is made. -/
theorem dst_down {n : Nat} {G : List (List Int)} (hG : GraphOk n G) (hr : ∀ zs ∈ G, zs.Pairwise (· < ·)) {k j : Nat} (hjk : j ≠ k) (h : 0 ≤ dstI G k j) : 1 ≤ dstI G k j ∧ ∃ z ∈ G.getD j [], dstI G k z.toNat = dstI G k j - 1 := by
  have hne : wayI G j k ≠ [] := fun h9 => by
    unfold dstI at h
    rw [if_neg hjk, h9] at h
    simp at h
  obtain ⟨v, q, e⟩ := way_len hG hr hne
  obtain ⟨a, b, _⟩ := way_first hG hr e
  have hd : dstI G k j = q.length + 1 := by
    unfold dstI
    rw [if_neg hjk, e]
    simp
  refine ⟨by omega, v, a, by omega⟩
theorem dst_up {n : Nat} {G : List (List Int)} (hG : GraphOk n G) (hr : ∀ zs ∈ G, zs.Pairwise (· < ·)) {k j : Nat} (hjk : j ≠ k) {z : Int} (hz : z ∈ G.getD j []) (h : 0 ≤ dstI G k z.toNat) : 1 ≤ dstI G k j ∧ dstI G k j ≤ dstI G k z.toNat + 1 := by
  have hne : wayI G j k ≠ [] := fun h9 => by
    have := (way_none hG hr).1 h9 z hz
    omega
  obtain ⟨v, q, e⟩ := way_len hG hr hne
  obtain ⟨a, b, _, _, c⟩ := way_first hG hr e
  have hd : dstI G k j = q.length + 1 := by
    unfold dstI
    rw [if_neg hjk, e]
    simp
  have := c z hz h
  omega
theorem dst_lt {n : Nat} {G : List (List Int)} (hG : GraphOk n G) (hr : ∀ zs ∈ G, zs.Pairwise (· < ·)) {k : Nat} (hk : k < n) : ∀ j, j < n → dstI G k j < n := by
  have key : ∀ (m : Nat) (j : Nat), j < n → dstI G k j = m → ∃ l : List Int, l.Nodup ∧ l.length = m + 1 ∧ ∀ x ∈ l, (0 ≤ x ∧ x < n) ∧ dstI G k x.toNat ≤ m := by
    intro m
    induction m with
    | zero =>
      intro j hj h
      exact ⟨[(j : Int)], by simp, rfl, fun x hx => by simp only [List.mem_singleton] at hx; subst hx; exact ⟨by omega, by rw [Int.toNat_natCast]; omega⟩⟩
    | succ m ih =>
      intro j hj h
      have hjk : j ≠ k := fun e => by rw [e, dstI_self] at h; omega
      obtain ⟨_, z, hz, h2⟩ := dst_down hG hr hjk (by omega)
      have hzn := hG.at j z hz
      obtain ⟨l, h3, h4, h5⟩ := ih z.toNat (by omega) (by omega)
      refine ⟨(j : Int) :: l, List.nodup_cons.2 ⟨fun hm => ?_, h3⟩, by simp [h4], fun x hx => ?_⟩
      · have := (h5 _ hm).2
        rw [Int.toNat_natCast] at this
        omega
      · rcases List.mem_cons.1 hx with rfl | hx
        · exact ⟨by omega, by rw [Int.toNat_natCast]; omega⟩
        · exact ⟨(h5 x hx).1, by have := (h5 x hx).2; omega⟩
  intro j hj
  by_cases h0 : 0 ≤ dstI G k j
  · obtain ⟨l, h1, h2, h3⟩ := key (dstI G k j).toNat j hj (by omega)
    have := nodup_few h1 (fun x hx => (h3 x hx).1)
    omega
  · omega

/-- What is known of the distances below a bound. -/
def farAt (G : List (List Int)) (k : Nat) (d : Int) (j : Nat) : Int := if dstI G k j < d then dstI G k j else -1
theorem farAt_zero (G : List (List Int)) (k j : Nat) : farAt G k 1 j = if j = k then 0 else -1 := by
  unfold farAt
  by_cases e : j = k
  · rw [e, dstI_self]; simp
  · have h1 := dstI_ge G k j
    rw [if_neg e]
    split
    · have : dstI G k j ≠ 0 := fun h => by
        unfold dstI at h
        rw [if_neg e] at h
        rcases hw : wayI G j k with _ | ⟨a, _ | ⟨b, l⟩⟩
        · rw [hw] at h; simp at h
        · unfold wayI wayAt at hw
          split at hw
          · cases hw
          · have hb := congrArg List.length hw
            simp only [List.length_reverse, List.length_append, List.length_cons, List.length_nil] at hb
            have hz : (backL (walkL G j).2 (idxI (walkL G j).2 fun s => s.1 == (k : Int))).length = 0 := by omega
            rename_i hi
            have hlt := idxI_lt (walkL G j).2 (fun s => s.1 == (k : Int))
            obtain ⟨m, hm⟩ : ∃ m : Nat, idxI (walkL G j).2 (fun s => s.1 == (k : Int)) = m := ⟨(idxI (walkL G j).2 fun s => s.1 == (k : Int)).toNat, by omega⟩
            rw [hm, backL_at (walkL_back G j) (by omega)] at hz
            simp at hz
        · rw [hw] at h; simp at h; omega
      omega
    · rfl
/-- The round d: a number's row is looked at. -/
theorem far_same {n : Nat} {G : List (List Int)} (hG : GraphOk n G) (hr : ∀ zs ∈ G, zs.Pairwise (· < ·)) {k j : Nat} {d : Int} (hd : 1 ≤ d) (h : 0 ≤ farAt G k d j) : farAt G k (d + 1) j = farAt G k d j := by
  unfold farAt at h ⊢
  split at h
  · rename_i h9
    rw [if_pos h9, if_pos (by omega)]
  · omega
theorem far_found {n : Nat} {G : List (List Int)} (hG : GraphOk n G) (hr : ∀ zs ∈ G, zs.Pairwise (· < ·)) {k j : Nat} {d : Int} (hd : 1 ≤ d) (h : farAt G k d j < 0) {z : Int} (hz : z ∈ G.getD j []) (hzd : dstI G k z.toNat = d - 1) : farAt G k (d + 1) j = d := by
  have hjk : j ≠ k := fun e => by
    subst e
    unfold farAt at h
    rw [dstI_self, if_pos (by omega)] at h
    omega
  have h1 := dst_up hG hr hjk hz (by omega)
  unfold farAt at h ⊢
  split at h
  · omega
  · rw [if_pos (by omega)]; omega
theorem far_none {n : Nat} {G : List (List Int)} (hG : GraphOk n G) (hr : ∀ zs ∈ G, zs.Pairwise (· < ·)) {k j : Nat} {d : Int} (hd : 1 ≤ d) (h : farAt G k d j < 0) (hz : ∀ z ∈ G.getD j [], dstI G k z.toNat ≠ d - 1) : farAt G k (d + 1) j = farAt G k d j := by
  unfold farAt at h ⊢
  split at h
  · rename_i h9
    have := dstI_ge G k j
    rw [if_pos (show dstI G k j < d + 1 by omega), if_pos h9]
  · rename_i h9
    rw [if_neg h9]
    split
    · have hjk : j ≠ k := fun e => by
        subst e
        rw [dstI_self] at *
        omega
      obtain ⟨_, z, hz1, hz2⟩ := dst_down hG hr hjk (by omega)
      exact absurd (by omega) (hz z hz1)
    · rfl
/-- What is compared in the round d. -/
theorem far_eq {G : List (List Int)} {k j : Nat} {d b : Int} (hd : 1 ≤ d) (hb : b = d ∨ b = d + 1) : farAt G k b j = d - 1 ↔ dstI G k j = d - 1 := by
  unfold farAt
  have := dstI_ge G k j
  split <;> omega
theorem far_end {n : Nat} {G : List (List Int)} (hG : GraphOk n G) (hr : ∀ zs ∈ G, zs.Pairwise (· < ·)) {k j : Nat} (hk : k < n) (hj : j < n) {d : Int} (hd : (n : Int) ≤ d) : farAt G k d j = dstI G k j := by
  unfold farAt
  have := dst_lt hG hr hk j hj
  rw [if_pos (by omega)]

/-! ### The next one -/
/-- The first of the least among some. -/
def NB (G : List (List Int)) (k : Nat) (zs : List Int) (b : Int) : Prop :=
  (b = -1 ∧ ∀ z ∈ zs, dstI G k z.toNat < 0) ∨ (0 ≤ b ∧ b ∈ zs ∧ 0 ≤ dstI G k b.toNat ∧ ∀ z ∈ zs, 0 ≤ dstI G k z.toNat → dstI G k b.toNat < dstI G k z.toNat ∨ dstI G k b.toNat = dstI G k z.toNat ∧ b ≤ z)
theorem NB.nil (G : List (List Int)) (k : Nat) : NB G k [] (-1) := .inl ⟨rfl, fun z hz => by cases hz⟩
theorem NB.snoc {G : List (List Int)} {k : Nat} {zs : List Int} {b z : Int} (h : NB G k zs b) (h0 : 0 ≤ z) (hz : ∀ y ∈ zs, y < z) :
    NB G k (zs ++ [z]) (if 0 ≤ dstI G k z.toNat ∧ (b < 0 ∨ dstI G k z.toNat < dstI G k b.toNat) then z else b) := by
  split
  · rename_i hc
    refine .inr ⟨h0, by simp, hc.1, fun y hy hd => ?_⟩
    rcases List.mem_append.1 hy with hy | hy
    · rcases h with ⟨_, h2⟩ | ⟨hb0, _, h2, h3⟩
      · have := h2 y hy; omega
      · have := h3 y hy hd
        omega
    · simp only [List.mem_singleton] at hy
      subst hy
      exact .inr ⟨rfl, Int.le_refl _⟩
  · rename_i hc
    rcases h with ⟨h1, h2⟩ | ⟨hb0, h1, h2, h3⟩
    · refine .inl ⟨h1, fun y hy => ?_⟩
      rcases List.mem_append.1 hy with hy | hy
      · exact h2 y hy
      · simp only [List.mem_singleton] at hy
        subst hy
        omega
    · refine .inr ⟨hb0, by simp [h1], h2, fun y hy hd => ?_⟩
      rcases List.mem_append.1 hy with hy | hy
      · exact h3 y hy hd
      · simp only [List.mem_singleton] at hy
        subst hy
        have := hz b h1
        omega
/-- The next one on the way: -1: there is none. -/
def nxtI (G : List (List Int)) (i k : Nat) : Int := match wayI G i k with | _ :: v :: _ => v | _ => -1
theorem NB.next {n : Nat} {G : List (List Int)} (hG : GraphOk n G) (hr : ∀ zs ∈ G, zs.Pairwise (· < ·)) {i k : Nat} {b : Int} (h : NB G k (G.getD i []) b) : b = nxtI G i k := by
  unfold nxtI
  by_cases h9 : wayI G i k = []
  · rw [h9]
    rcases h with ⟨h1, _⟩ | ⟨_, h1, h2, _⟩
    · exact h1
    · have := (way_none hG hr).1 h9 b h1
      omega
  · obtain ⟨v, q, e⟩ := way_len hG hr h9
    rw [e]
    obtain ⟨a, d, _, _, c⟩ := way_first hG hr e
    rcases h with ⟨_, h1⟩ | ⟨_, h1, h2, h3⟩
    · have := h1 v a; omega
    · have := h3 v a (by omega)
      have := c b h1 h2
      simp only
      omega
theorem nxt_neg {n : Nat} {G : List (List Int)} (hG : GraphOk n G) (hr : ∀ zs ∈ G, zs.Pairwise (· < ·)) {i k : Nat} : (nxtI G i k < 0 ↔ wayI G i k = []) ∧ -1 ≤ nxtI G i k ∧ nxtI G i k < n := by
  unfold nxtI
  by_cases h9 : wayI G i k = []
  · rw [h9]; simp; omega
  · obtain ⟨v, q, e⟩ := way_len hG hr h9
    have hv := hG.at i v (way_first hG hr e).1
    rw [e]
    simp
    omega
end Go.Proofs.YtibgfgfmljhimaaGreat

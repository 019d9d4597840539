/-
  A grammar with a rule more, a Star over a part of it, plain: when it is right, what of it may match nothing.
  Conditions: the grammar is right.
-/
import Derived.Test.YtibgfgfmljhimaaWeP
import Derived.Test.YtibgfgfmljhimaaKB2
set_option linter.unusedVariables false
set_option linter.unusedSimpArgs false
set_option linter.unnecessarySimpa false
namespace Go.Proofs.Ytibgfgfmljhimaa

def moreS : ByteArray := ⟨#[95, 109, 111, 114, 101]⟩
def starN (z : Int) : Nd := { bareN 8 with kids := [z] }
def moreG (g : Gr) (c : Nat) : Gr := ⟨g.rules ++ [⟨moreS, (g.nodes.length : Int)⟩], (g.nodes ++ [starN ((g.nodes.length : Int) + 1)]) ++ movedL (bodyOf g c) ((g.nodes.length : Int) + 1)⟩
theorem more_len (g : Gr) (c : Nat) : (moreG g c).nodes.length = g.nodes.length + 1 + (bodyOf g c).length := by simp [moreG, movedL_len]; omega
theorem more_rules (g : Gr) (c : Nat) : (moreG g c).rules.length = g.rules.length + 1 := by simp [moreG]
theorem more_old {g : Gr} {c m : Nat} (hm : m < g.nodes.length) : (moreG g c).nodes[m]? = g.nodes[m]? := by
  simp only [moreG]
  rw [List.getElem?_append_left (by simp; omega), List.getElem?_append_left hm]
theorem more_star (g : Gr) (c : Nat) : (moreG g c).nodes[g.nodes.length]? = some (starN ((g.nodes.length : Int) + 1)) := by
  simp only [moreG]
  rw [List.getElem?_append_left (by simp), List.getElem?_append_right (Nat.le_refl _)]
  simp
/-- The part's end. -/
theorem part_is {g : Gr} (hr : rightB g = true) {c : Nat} (hc : c < g.nodes.length) : ∃ z h : Nat, 1 ≤ z ∧ c + z ≤ g.nodes.length ∧ heightG g c = (h : Int) ∧ (∀ f, aft g.nodes f c = if h ≤ f then some (c + z, h) else none) ∧ h ≤ 16 ∧ (bodyOf g c).length = z ∧ bodyOf g c = movedL ((g.nodes.drop c).take z) (-(c : Int)) := by
  obtain ⟨t, ht, _, hok⟩ := right_tab hr
  obtain ⟨z, h, k1, k2, k3, k4⟩ := hok.2 c (Nat.zero_le _) hc
  obtain ⟨z', h', q1, q2, q3, q4, q5⟩ := right_aft ht hc
  rw [Nat.sub_zero] at k1
  have he : z = z' ∧ h = h' := by rw [k1] at q1; simpa using q1
  obtain ⟨rfl, rfl⟩ := he
  obtain ⟨b1, b2⟩ := bodyOf_at hr q5
  have := (aft_cover q5).1
  refine ⟨z, h, k2, this, ?_, k4, q4, by rw [b2]; omega, by rw [b1]; congr 2; omega⟩
  unfold heightG
  rw [ht]
  simp only
  rw [if_pos (by omega), Int.toNat_natCast, k1]
  rfl
theorem more_seg {g : Gr} (hr : rightB g = true) {c : Nat} (hc : c < g.nodes.length) {m : Nat} (h1 : c ≤ m) (h2 : m < c + (bodyOf g c).length) : (moreG g c).nodes[m + (g.nodes.length + 1 - c)]? = (g.nodes[m]?).map (Nd.shift ((g.nodes.length + 1 - c : Nat) : Int)) := by
  obtain ⟨z, h, z1, z2, _, _, _, z3, z4⟩ := part_is hr hc
  rw [z3] at h2
  simp only [moreG]
  rw [List.getElem?_append_right (by simp; omega), z4, movedL_movedL]
  simp only [movedL, List.getElem?_map, List.length_append, List.length_cons, List.length_nil]
  rw [List.getElem?_take_of_lt (by omega), List.getElem?_drop]
  rw [show c + (m + (g.nodes.length + 1 - c) - (g.nodes.length + (0 + 1))) = m by omega, show -(c : Int) + ((g.nodes.length : Int) + 1) = ((g.nodes.length + 1 - c : Nat) : Int) by omega]

/-! ### When it is right -/
theorem nodeB_more {x : Nd} {q : Int} (h : nodeB x q = true) : nodeB x (q + 1) = true := by
  unfold nodeB nodeN at h ⊢
  split
  · rename_i hk; rw [if_pos hk] at h; exact h
  · rename_i hk; rw [if_neg hk] at h
    split
    · rename_i hk; rw [if_pos hk] at h; exact h
    · rename_i hk; rw [if_neg hk] at h
      split
      · rename_i hk; rw [if_pos hk] at h; exact h
      · rename_i hk; rw [if_neg hk] at h
        split
        · rename_i hk; rw [if_pos hk] at h
          simp only [Bool.and_eq_true, decide_eq_true_eq] at h ⊢
          exact ⟨⟨h.1.1, by omega, h.1.2.2.1, h.1.2.2.2⟩, h.2⟩
        · rename_i hk; rw [if_neg hk] at h; exact h
theorem ruleI_app {rs qs : List Rl} {s : ByteArray} {i : Nat} (h : ruleI rs s = (i : Int)) : ruleI (rs ++ qs) s = (i : Int) := by
  unfold ruleI at h ⊢
  split at h
  · rename_i hl
    have e : ruleN (rs ++ qs) s = ruleN rs s := by
      unfold ruleN at hl ⊢
      rw [List.findIdx_append, if_pos hl]
    rw [e, if_pos (by rw [List.length_append]; omega)]
    exact h
  · omega
theorem ruleI_last {rs : List Rl} {s : ByteArray} {b : Int} (h : ruleI rs s < 0) : ruleI (rs ++ [⟨s, b⟩]) s = (rs.length : Int) := by
  have hl : ¬ ruleN rs s < rs.length := fun hl => by unfold ruleI at h; rw [if_pos hl] at h; omega
  have e : ruleN (rs ++ [⟨s, b⟩]) s = rs.length := by
    unfold ruleN at hl ⊢
    rw [List.findIdx_append, if_neg hl]
    simp
  unfold ruleI
  rw [e, if_pos (by simp)]
theorem chain_snoc {g : Gr} : ∀ (rs : List Rl) (r : Rl) (i next e : Nat), chain g rs i next = some e → chain g (rs ++ [r]) i next = chain g [r] (i + rs.length) e
  | [], r, i, next, e, h => by simp only [chain] at h; cases h; simp
  | q :: rs, r, i, next, e, h => by
    rw [List.cons_append]
    rw [chain] at h ⊢
    split at h
    · rename_i hc
      rw [if_pos hc]
      split at h
      · cases h
      · rename_i to hh hf
        rw [chain_snoc rs r (i + 1) to e h, List.length_cons, show i + 1 + rs.length = i + (rs.length + 1) by omega]
    · cases h
theorem more_aft {g : Gr} (c : Nat) {f n e h : Nat} (ha : aft g.nodes f n = some (e, h)) : aft (moreG g c).nodes f n = some (e, h) := by
  have he := (aft_cover ha).1
  have := aft_embed (ns := g.nodes) (xs := (moreG g c).nodes) (lo := 0) (hi := g.nodes.length) (d := 0) (fun m _ hm => by
    rw [Nat.add_zero, more_old hm, List.getElem?_eq_getElem hm, Option.map_some]
    rw [show ((0 : Nat) : Int) = 0 from rfl, shift_zero]) f f n e h (Nat.zero_le _) ha he
  rw [Nat.add_zero, ha] at this
  simpa [shiftP] using this
theorem chain_more {g : Gr} (c : Nat) : ∀ (rs : List Rl) (i next e : Nat), chain g rs i next = some e → chain (moreG g c) rs i next = some e
  | [], i, next, e, h => h
  | r :: rs, i, next, e, h => by
    rw [chain] at h ⊢
    split at h
    · rename_i hc
      simp only [Bool.and_eq_true, decide_eq_true_eq] at hc
      split at h
      · cases h
      · rename_i to hh hf
        rw [if_pos (by simp only [Bool.and_eq_true, decide_eq_true_eq]; exact ⟨⟨hc.1.1, ruleI_app hc.1.2⟩, hc.2⟩), more_aft c hf]
        exact chain_more c rs (i + 1) to e h
    · cases h
theorem more_right {g : Gr} (hr : rightB g = true) {c : Nat} (hc : c < g.nodes.length) (h32 : g.rules.length < 32) (hno : ruleI g.rules moreS < 0) (hh : heightG g c ≠ 16) (hs : g.nodes.length + 1 + (bodyOf g c).length ≤ 2048) : rightB (moreG g c) = true := by
  obtain ⟨z, h, z1, z2, z5, z6, z7, z3, z4⟩ := part_is hr hc
  have h0 := hr
  simp only [rightB, Bool.and_eq_true, beq_iff_eq] at hr ⊢
  obtain ⟨⟨h1, h2⟩, h3⟩ := hr
  refine ⟨⟨?_, ?_⟩, ?_⟩
  · simp only [sizesB, more_rules, more_len, Bool.and_eq_true, decide_eq_true_eq]
    exact ⟨⟨by omega, by omega⟩, hs⟩
  · simp only [allB, List.all_eq_true] at h2 ⊢
    intro x hx
    rw [more_rules]
    have hold : ∀ y ∈ g.nodes, nodeB y ((g.rules.length + 1 : Nat) : Int) = true := fun y hy => by
      have := nodeB_more (h2 y hy)
      rw [show ((g.rules.length + 1 : Nat) : Int) = (g.rules.length : Int) + 1 by omega]
      exact this
    simp only [moreG, List.mem_append, List.mem_singleton] at hx
    rcases hx with (hx | hx) | hx
    · exact hold x hx
    · subst hx
      unfold nodeB nodeN starN bareN
      simp only
      rw [if_neg (by omega), if_neg (by omega), if_neg (by omega), if_neg (by omega), if_neg (by omega), if_pos (by omega)]
      show (plainB 0 0 0 0 0 0 ⟨#[]⟩ && decide ((1 : Nat) = 1)) = true
      decide +kernel
    · rw [z4] at hx
      simp only [movedL, List.mem_map] at hx
      obtain ⟨y, ⟨u, hu, rfl⟩, rfl⟩ := hx
      rw [nodeB_shift, nodeB_shift]
      exact hold u (List.mem_of_mem_drop (List.mem_of_mem_take hu))
  · have h4 := chain_more c g.rules 0 0 _ h3
    have h5 : chain (moreG g c) (moreG g c).rules 0 0 = _ := chain_snoc g.rules ⟨moreS, (g.nodes.length : Int)⟩ 0 0 _ h4
    rw [h5, Nat.zero_add]
    have ha : aft (moreG g c).nodes 15 (g.nodes.length + 1) = some (g.nodes.length + 1 + z, h) := by
      have := aft_embed (ns := g.nodes) (xs := (moreG g c).nodes) (lo := c) (hi := c + z) (d := g.nodes.length + 1 - c) (fun m m1 m2 => more_seg h0 hc m1 (by rw [z3]; exact m2)) 15 16 c (c + z) h (Nat.le_refl _) (by rw [z6, if_pos z7]) (Nat.le_refl _)
      rw [show c + (g.nodes.length + 1 - c) = g.nodes.length + 1 by omega, z6, if_pos (by rw [z5] at hh; omega)] at this
      rw [this]
      simp only [Option.map_some, shiftP]
      rw [show c + z + (g.nodes.length + 1 - c) = g.nodes.length + 1 + z by omega]
    have ha16 : aft (moreG g c).nodes 16 g.nodes.length = some (g.nodes.length + 1 + z, max 1 (1 + h)) := by
      rw [show (16 : Nat) = 15 + 1 from rfl, aft, more_star]
      simp only [starN, kidsAft]
      rw [if_pos (by omega), ha]
    rw [chain, if_pos (by
      simp only [Bool.and_eq_true, decide_eq_true_eq]
      exact ⟨⟨by decide +kernel, ruleI_last hno⟩, trivial⟩), ha16]
    simp only [chain]
    rw [more_len, z3]

theorem body_from {g : Gr} (hr : rightB g = true) {c : Nat} (hc : c < g.nodes.length) {x : Nd} (hx : x ∈ bodyOf g c) : ∃ y ∈ g.nodes, x = y.shift (-(c : Int)) := by
  obtain ⟨z, h, _, _, _, _, _, _, z4⟩ := part_is hr hc
  rw [z4] at hx
  simp only [movedL, List.mem_map] at hx
  obtain ⟨u, hu, rfl⟩ := hx
  exact ⟨u, List.mem_of_mem_drop (List.mem_of_mem_take hu), rfl⟩
theorem body_kids {g : Gr} (hr : rightB g = true) (hN : g.nodes.length ≤ 300) {c : Nat} (hc : c < g.nodes.length) {x : Nd} (hx : x ∈ bodyOf g c) : ∀ v ∈ x.kids, -300 ≤ v ∧ v ≤ 300 := by
  obtain ⟨y, hy, rfl⟩ := body_from hr hc hx
  obtain ⟨m, hm, rfl⟩ := List.getElem_of_mem hy
  intro v hv
  simp only [Nd.shift, List.mem_map] at hv
  obtain ⟨k, hk, rfl⟩ := hv
  have := right_kids hr hm k hk
  omega
theorem more_mem {g : Gr} {c : Nat} {x : Nd} (hx : x ∈ (moreG g c).nodes) : x ∈ g.nodes ∨ x = starN ((g.nodes.length : Int) + 1) ∨ ∃ y ∈ bodyOf g c, x = y.shift ((g.nodes.length : Int) + 1) := by
  simp only [moreG, List.mem_append, List.mem_singleton] at hx
  rcases hx with (hx | hx) | hx
  · exact .inl hx
  · exact .inr (.inl hx)
  · simp only [movedL, List.mem_map] at hx
    obtain ⟨y, hy, rfl⟩ := hx
    exact .inr (.inr ⟨y, hy, rfl⟩)
theorem more_wf {g : Gr} (hr : rightB g = true) (hN : g.nodes.length ≤ 300) {c : Nat} (hc : c < g.nodes.length) (hw : g.Wf) : (moreG g c).Wf := by
  refine ⟨fun x hx => ?_, fun r hr => ?_, fun r hr => ?_⟩
  · rcases more_mem hx with hx | rfl | ⟨y, hy, rfl⟩
    · exact hw.nodes x hx
    · refine ⟨by show I64 8; decide, by show I64 0; decide, by show I64 0; decide, fun v hv => ?_, by show (0 : Nat) ≤ maxLen; exact Nat.zero_le _⟩
      simp only [starN, List.mem_singleton] at hv
      subst hv
      unfold I64; omega
    · have hk := body_kids hr hN hc hy
      obtain ⟨u, hu, rfl⟩ := body_from hr hc hy
      have h0 := hw.nodes u hu
      refine ⟨h0.k, h0.r, h0.l, fun v hv => ?_, h0.s⟩
      simp only [Nd.shift, List.mem_map] at hv hk
      obtain ⟨k, ⟨k', hk', rfl⟩, rfl⟩ := hv
      have := hk _ ⟨k', hk', rfl⟩
      unfold I64; omega
  · simp only [moreG, List.mem_append, List.mem_singleton] at hr
    rcases hr with hr | rfl
    · exact hw.names r hr
    · simp [moreS, maxLen, ByteArray.size]
  · simp only [moreG, List.mem_append, List.mem_singleton] at hr
    rcases hr with hr | rfl
    · exact hw.bodies r hr
    · show I64 (g.nodes.length : Int)
      unfold I64; omega
theorem more_reach {g : Gr} (hr : rightB g = true) (hN : g.nodes.length ≤ 300) (hk : ∀ x ∈ g.nodes, x.kids.length ≤ 300) {c : Nat} (hc : c < g.nodes.length) : Reach (moreG g c) := by
  obtain ⟨z, h, z1, z2, _, _, _, z3, _⟩ := part_is hr hc
  refine ⟨by rw [more_rules]; have := (right_sizes hr).2.1; omega, by rw [more_len, z3]; omega, fun x hx => ?_⟩
  rcases more_mem hx with hx | rfl | ⟨y, hy, rfl⟩
  · have := hk x hx; omega
  · simp [starN]
  · obtain ⟨u, hu, rfl⟩ := body_from hr hc hy
    have := hk u hu
    simp only [Nd.shift, List.length_map]; omega

/-! ### What of it may match nothing -/
theorem node_r {x : Nd} {q : Int} (hq : 1 ≤ q) (h : nodeB x q = true) : 0 ≤ x.r ∧ x.r < q := by
  unfold nodeB nodeN at h
  repeat' split at h
  all_goals first
    | cases h
    | (simp only [bareB, plainB, Bool.and_eq_true, decide_eq_true_eq] at h; omega)
/-- In the first nodes the same may. -/
theorem mayN_pre {ns xs : List Nd} (hf : Falls ns) (hx : Falls xs) (he : ∀ m, m < ns.length → xs[m]? = ns[m]?) {R : Int} (hr : ∀ x ∈ ns, 0 ≤ x.r ∧ x.r < R) {C D : Int → Bool} (hC : ∀ r, 0 ≤ r → r < R → D r = C r) :
    ∀ (d n : Nat), ns.length - n ≤ d → n < ns.length → mayN xs D n = mayN ns C n := by
  intro d
  induction d with
  | zero => intro n h1 h2; omega
  | succ d ih =>
    intro n hd hn
    have e1 := he n hn
    rw [List.getElem?_eq_getElem hn] at e1
    obtain ⟨l1, e1⟩ := List.getElem?_eq_some_iff.1 e1
    rw [mayN_eq hx D l1, mayN_eq hf C hn, e1]
    obtain ⟨r1, r2⟩ := hr _ (List.getElem_mem hn)
    refine kindMay_congr (hC _ r1 r2) (fun k hk => ?_)
    obtain ⟨k1, k2⟩ := hf n hn k hk
    obtain ⟨q, rfl⟩ : ∃ q : Nat, k = q := ⟨k.toNat, by omega⟩
    exact ih q (by omega) (by omega)
theorem kindMay_moved {x : Nd} {d : Int} {C D F G : Int → Bool} (hC : C x.r = D x.r) (hF : ∀ k ∈ x.kids, F (k + d) = G k) : kindMay (x.shift d) C F = kindMay x D G := by
  have h1 : (x.kids.map (· + d)).all F = x.kids.all G := by
    rw [List.all_map, Bool.eq_iff_iff, List.all_eq_true, List.all_eq_true]
    exact ⟨fun h k hk => by rw [← hF k hk]; exact h k hk, fun h k hk => by show F (k + d) = true; rw [hF k hk]; exact h k hk⟩
  have h2 : (x.kids.map (· + d)).any F = x.kids.any G := by
    rw [List.any_map, Bool.eq_iff_iff, List.any_eq_true, List.any_eq_true]
    exact ⟨fun ⟨k, hk, h⟩ => ⟨k, hk, by rw [← hF k hk]; exact h⟩, fun ⟨k, hk, h⟩ => ⟨k, hk, by show F (k + d) = true; rw [hF k hk]; exact h⟩⟩
  simp only [kindMay, Nd.shift, h1, h2, hC]
/-- In the part the same may. -/
theorem mayN_seg {ns xs : List Nd} (hf : Falls ns) (hx : Falls xs) {lo hi d : Nat} (hhi : hi ≤ ns.length) (he : ∀ m, lo ≤ m → m < hi → xs[m + d]? = (ns[m]?).map (Nd.shift d)) (hin : ∀ m (h : m < ns.length), lo ≤ m → m < hi → ∀ k ∈ ns[m].kids, (m : Int) < k ∧ k < hi)
    {R : Int} (hr : ∀ x ∈ ns, 0 ≤ x.r ∧ x.r < R) {C D : Int → Bool} (hC : ∀ r, 0 ≤ r → r < R → D r = C r) :
    ∀ (e n : Nat), ns.length - n ≤ e → lo ≤ n → n < hi → mayN xs D ((n + d : Nat) : Int) = mayN ns C n := by
  intro e
  induction e with
  | zero => intro n h1 h2 h3; omega
  | succ e ih =>
    intro n h1 h2 h3
    have hn : n < ns.length := by omega
    have e1 := he n h2 h3
    rw [List.getElem?_eq_getElem hn, Option.map_some] at e1
    obtain ⟨l1, e1⟩ := List.getElem?_eq_some_iff.1 e1
    rw [mayN_eq hx D l1, mayN_eq hf C hn, e1]
    obtain ⟨r1, r2⟩ := hr _ (List.getElem_mem hn)
    refine kindMay_moved (hC _ r1 r2) (fun k hk => ?_)
    obtain ⟨k1, k2⟩ := hin n hn h2 h3 k hk
    obtain ⟨q, rfl⟩ : ∃ q : Nat, k = q := ⟨k.toNat, by omega⟩
    exact ih q (by omega) (by omega) (by omega)
theorem right_rs {g : Gr} (hr : rightB g = true) : ∀ x ∈ g.nodes, 0 ≤ x.r ∧ x.r < (g.rules.length : Int) := fun x hx => by
  obtain ⟨m, hm, rfl⟩ := List.getElem_of_mem hx
  exact node_r (by have := (right_sizes hr).1; omega) (right_node hr hm)
theorem more_rk {g : Gr} (hr : rightB g = true) {c : Nat} (hx : rightB (moreG g c) = true) : ∀ j i, i < g.rules.length → rk (moreG g c) j i = rk g j i := by
  intro j
  induction j with
  | zero => intro i _; rfl
  | succ j ih =>
    intro i hi
    have hi' : i < (moreG g c).rules.length := by rw [more_rules]; omega
    rw [rk_step _ j hi', rk_step _ j hi, ih i hi]
    have hb : (moreG g c).rules[i] = g.rules[i] := by
      have : (moreG g c).rules[i]? = g.rules[i]? := by simp only [moreG]; rw [List.getElem?_append_left hi]
      rw [List.getElem?_eq_getElem hi', List.getElem?_eq_getElem hi] at this
      exact Option.some.inj this
    obtain ⟨q, hq, hqn⟩ := right_body hr hi
    rw [hb, hq]
    have : mayR (moreG g c) j q = mayR g j q := mayN_pre (falls_right hr) (falls_right hx) (fun m hm => more_old hm) (right_rs hr) (fun r r1 r2 => by
      simp only [callsR]
      rw [ih r.toNat (by omega)]) g.nodes.length q (by omega) hqn
    rw [this]
theorem more_calls {g : Gr} (hr : rightB g = true) {c : Nat} (hx : rightB (moreG g c) = true) (r : Int) (r1 : 0 ≤ r) (r2 : r < g.rules.length) : callsR (moreG g c) (moreG g c).rules.length r = callsR g (g.rules.length + 1) r := by
  simp only [callsR]
  rw [more_rk hr hx _ r.toNat (by omega), more_rules]
theorem more_may {g : Gr} (hr : rightB g = true) {c : Nat} (hx : rightB (moreG g c) = true) {n : Nat} (hn : n < g.nodes.length) : mayG (moreG g c) n = mayG g n := by
  have h1 : mayG (moreG g c) n = mayR g (g.rules.length + 1) n := mayN_pre (falls_right hr) (falls_right hx) (fun m hm => more_old hm) (right_rs hr) (more_calls hr hx) g.nodes.length n (by omega) hn
  rw [h1, still_may (still_end g) (Nat.le_succ _)]
  rfl
theorem part_in {g : Gr} (hr : rightB g = true) {c z : Nat} (hc : c < g.nodes.length) (ha : ∃ h, aft g.nodes 16 c = some (c + z, h)) : ∀ m (h : m < g.nodes.length), c ≤ m → m < c + z → ∀ k ∈ g.nodes[m].kids, (m : Int) < k ∧ k < (c + z : Nat) := by
  intro m hm m1 m2 k hk
  obtain ⟨h, ha⟩ := ha
  obtain ⟨e', h', q1, q2⟩ := (aft_cover ha).2 m m1 m2
  rw [show (16 : Nat) = 15 + 1 from rfl, aft, List.getElem?_eq_getElem hm] at q1
  have := kids_gt (fun n e h h' => (aft_lt h').1) q1 k hk
  omega
theorem more_top {g : Gr} (hr : rightB g = true) {c : Nat} (hc : c < g.nodes.length) (hx : rightB (moreG g c) = true) : mayG (moreG g c) ((g.nodes.length : Int) + 1) = mayG g c := by
  obtain ⟨z, h, z1, z2, z5, z6, z7, z3, z4⟩ := part_is hr hc
  have h1 : mayN (moreG g c).nodes (callsR (moreG g c) (moreG g c).rules.length) ((c + (g.nodes.length + 1 - c) : Nat) : Int) = mayN g.nodes (callsR g (g.rules.length + 1)) c :=
    mayN_seg (falls_right hr) (falls_right hx) (lo := c) (hi := c + z) z2 (fun m m1 m2 => more_seg hr hc m1 (by rw [z3]; exact m2)) (part_in hr hc ⟨h, by rw [z6, if_pos z7]⟩) (right_rs hr) (more_calls hr hx) g.nodes.length c (by omega) (Nat.le_refl _) (by omega)
  rw [show ((c + (g.nodes.length + 1 - c) : Nat) : Int) = (g.nodes.length : Int) + 1 by omega] at h1
  show mayN (moreG g c).nodes (callsR (moreG g c) (moreG g c).rules.length) _ = _
  rw [h1]
  show mayR g (g.rules.length + 1) c = _
  rw [still_may (still_end g) (Nat.le_succ _)]
  rfl
theorem more_idle {g : Gr} (hr : rightB g = true) {c : Nat} (hx : rightB (moreG g c) = true) {n : Nat} (hn : n < g.nodes.length) : (n : Int) ∈ idleL (moreG g c) ↔ (n : Int) ∈ idleL g := by
  rw [mem_idle hx (by rw [more_len]; omega), mem_idle hr hn]
  have e : idleB (moreG g c) n = idleB g n := by
    simp only [idleB]
    rw [more_old hn, List.getElem?_eq_getElem hn]
    simp only
    by_cases hk : g.nodes[n].k = 8 ∨ g.nodes[n].k = 9
    · have h1 := right_rep hr hn hk
      obtain ⟨z, hz⟩ := List.length_eq_one_iff.1 h1
      have hkz := right_kids hr hn z (by rw [hz]; simp)
      rw [hz]
      simp only [List.headD_cons]
      obtain ⟨q, rfl⟩ : ∃ q : Nat, z = q := ⟨z.toNat, by omega⟩
      rw [more_may hr hx (by omega)]
    · rw [decide_eq_false (fun h => hk (.inl h)), decide_eq_false (fun h => hk (.inr h))]
      rfl
  rw [e]
theorem more_idle_top {g : Gr} (hr : rightB g = true) {c : Nat} (hc : c < g.nodes.length) (hx : rightB (moreG g c) = true) : decide ((g.nodes.length : Int) ∈ idleL (moreG g c)) = mayG g c := by
  rw [Bool.eq_iff_iff, decide_eq_true_eq, mem_idle hx (by rw [more_len]; omega)]
  simp only [idleB]
  rw [more_star]
  simp only [starN, bareN, List.headD_cons]
  rw [more_top hr hc hx]
  simp
end Go.Proofs.Ytibgfgfmljhimaa
set_option linter.unusedVariables false
set_option linter.unusedSimpArgs false
set_option linter.unnecessarySimpa false
namespace Go.Proofs.Ytibgfgfmljhimaa
open Go.RowKit Go.MapKept Go.Shelf

/-- A grammar in the making: its box, the given one's box, its rows. -/
structure MakeG (w4 : World) (T b : Nat) (u0 u1 : Value) (b1 : Option Addr) (nr d1 : Nat) (b2 : Option Addr) (nl d2 : Nat) (rs : List Rl) (L : List Cp) (W : World) : Prop where
  lr : nr = rs.length
  ll : nl = L.length
  box : W.heap[T]? = some (.cells #[.slice b1 nr d1, .slice b2 nl d2] 25 (0, 0))
  gbox : W.heap[b]? = some (.cells #[u0, u1] 25 (0, 0))
  rules : FreshRules w4.heap.size W b1 d1 rs
  nodes : OwnN w4.heap.size W b2 d2 L
  chg : Chg [] w4 W
theorem MakeG.chg0 {w4 W W' : World} {T b : Nat} {u0 u1 : Value} {b1 : Option Addr} {nr d1 : Nat} {b2 : Option Addr} {nl d2 : Nat} {rs : List Rl} {L : List Cp} (h : MakeG w4 T b u0 u1 b1 nr d1 b2 nl d2 rs L W) (hc : Chg [] W W') : MakeG w4 T b u0 u1 b1 nr d1 b2 nl d2 rs L W' :=
  ⟨h.lr, h.ll, hc.heap h.box (by simp), hc.heap h.gbox (by simp), hc.row h.rules (fun _ _ => by simp), h.nodes.chg0 hc, h.chg.tr hc⟩
theorem MakeG.gram {w4 W : World} {T b : Nat} {u0 u1 : Value} {b1 : Option Addr} {nr d1 : Nat} {b2 : Option Addr} {nl d2 : Nat} {rs : List Rl} {L : List Cp} (h : MakeG w4 T b u0 u1 b1 nr d1 b2 nl d2 rs L W) {g : Gr} (h1 : rs = g.rules) (h2 : L.map (·.1) = g.nodes) (wf : g.Wf) : GramAt W b1 nr d1 b2 nl d2 g := by
  obtain rfl := h.lr
  obtain rfl := h.ll
  obtain ⟨k1, k2, k3, k4⟩ := rules_row (row_base h.rules (Nat.zero_le _))
  obtain ⟨m1, m2, m3⟩ := h.nodes.read
  rw [h1] at k1 k3 ⊢
  rw [h2] at m1
  have hl : L.length = g.nodes.length := by rw [← h2]; simp
  exact ⟨rfl, k3, k4, k1, hl, m2, m3, m1, wf⟩
theorem rulesCells_snoc (rs : List Rl) (r : Rl) : rulesCells (rs ++ [r]) = rulesCells rs ++ [.string r.name, .int .i64 r.body] := by simp [rulesCells, Rl.cells]
theorem nodesCells_app (L M : List Cp) : nodesCells (L ++ M) = nodesCells L ++ nodesCells M := by simp [nodesCells]
theorem nodesCells_one (p : Cp) : nodesCells [p] = p.cells := by simp [nodesCells]

/-- Its box and the given one's stay while a row grows that is of another type. -/
theorem MakeG.rule {w4 wB w6 : World} {T b : Nat} {u0 u1 : Value} {b1 : Option Addr} {nr d1 : Nat} {b2 : Option Addr} {nl d2 : Nat} {rs : List Rl} {L : List Cp} (h : MakeG w4 T b u0 u1 b1 nr d1 b2 nl d2 rs L wB) (hT4 : w4.heap.size ≤ T) (hb : b < w4.heap.size) {r : Rl} {a5 : Option Addr} {c5 : Nat}
    (hr : w6.ownsRow w4.heap.size 46 2 (.slice a5 (nr + 1) c5) (nr + 1) (rulesCells rs ++ [.string r.name, .int .i64 r.body])) (hg : wB.grownBy w6 (Value.slice b1 nr d1).ownBlock) :
    w6.heap[T]? = some (.cells #[.slice b1 nr d1, .slice b2 nl d2] 25 (0, 0)) ∧ MakeG w4 T b u0 u1 a5 (nr + 1) c5 b2 nl d2 (rs ++ [r]) L (w6.setCell ⟨T, 0, none⟩ (.slice a5 (nr + 1) c5)) := by
  have hlr := h.lr
  have hrr := h.rules
  rw [FreshRules, ← hlr] at hrr
  have hT := grown_heap hg h.box (ownsRow_ne hrr h.box (by decide))
  refine ⟨hT, ?_⟩
  have hG := grown_heap hg h.gbox (ownsRow_ne hrr h.gbox (by decide))
  have hc5 : Chg (Value.slice b1 nr d1).ownBlock.toList wB w6 := (Chg.refl _ _).grown hg (fun k hk => .inl (by rw [hk]; simp))
  have hcT := (Chg.refl [T] w6).setCell (p := ⟨T, 0, none⟩) (.inl (by simp)) (.slice a5 (nr + 1) c5)
  have hN5 := h.nodes.chg hc5 (fun k hk => by
    simp only [Option.mem_toList] at hk
    exact ⟨row_notrow hrr hk (by decide), row_notrow hrr hk (by decide)⟩)
  have hb2 : ∀ e, 25 ≠ e → ∀ k ∈ [T], NotRow w6 e k := fun e he k hk => by simp only [List.mem_singleton] at hk; subst hk; exact .of_cells hT he
  refine ⟨by rw [List.length_append, ← hlr]; rfl, h.ll, ?_, heap_set_ne hG (by omega), ?_, hN5.chg hcT (fun k hk => ⟨hb2 _ (by decide) k hk, hb2 _ (by decide) k hk⟩), ?_⟩
  · simpa using heap_setCell_same hT 0 (.slice a5 (nr + 1) c5)
  · rw [FreshRules, List.length_append, rulesCells_snoc, ← hlr]
    exact hcT.rowOf hr (hb2 _ (by decide))
  · have h1 := h.chg.grown hg (fun k hk => .inr (row_beyond hrr hk).1)
    exact h1.trans hcT (fun j hj => .inr (by simp at hj; omega))
/-- A list of nodes is put to it. -/
theorem MakeG.join {w4 wC w9 : World} {T b : Nat} {u0 u1 : Value} {b1 : Option Addr} {nr d1 : Nat} {b2 : Option Addr} {nl d2 : Nat} {rs : List Rl} {L M : List Cp} (h : MakeG w4 T b u0 u1 b1 nr d1 b2 nl d2 rs L wC) (hT4 : w4.heap.size ≤ T) (hb : b < w4.heap.size)
    (hM : ∀ p ∈ M, FreshInts w4.heap.size wC p.2.1 p.2.2 p.1.kids) (ha : M.Pairwise fun q p => ∀ i j, q.own = some i → p.own = some j → i ≠ j) (hx : ∀ q ∈ L, ∀ p ∈ M, ∀ i j, q.own = some i → p.own = some j → i ≠ j) {a6 : Option Addr} {ml c6 : Nat} (hml : ml = M.length)
    (hr : w9.ownsRow w4.heap.size 32 9 (.slice a6 (nl + ml) c6) (nl + ml) (nodesCells L ++ nodesCells M)) (hg : wC.grownBy w9 (Value.slice b2 nl d2).ownBlock) :
    w9.heap[T]? = some (.cells #[.slice b1 nr d1, .slice b2 nl d2] 25 (0, 0)) ∧ MakeG w4 T b u0 u1 b1 nr d1 a6 (nl + ml) c6 rs (L ++ M) (w9.setCell ⟨T, 1, none⟩ (.slice a6 (nl + ml) c6)) := by
  obtain rfl := h.ll
  subst hml
  have hT := grown_heap hg h.box (ownsRow_ne h.nodes.nodes h.box (by decide))
  refine ⟨hT, ?_⟩
  have hG := grown_heap hg h.gbox (ownsRow_ne h.nodes.nodes h.gbox (by decide))
  have hcT := (Chg.refl [T] w9).setCell (p := ⟨T, 1, none⟩) (.inl (by simp)) (.slice a6 (L.length + M.length) c6)
  have hc9 : Chg (Value.slice b2 L.length d2).ownBlock.toList wC w9 := (Chg.refl _ _).grown hg (fun k hk => .inl (by rw [hk]; simp))
  have hN9 := h.nodes.join hM ha hx hr hg
  have hb2 : ∀ e, 25 ≠ e → ∀ k ∈ [T], NotRow w9 e k := fun e he k hk => by simp only [List.mem_singleton] at hk; subst hk; exact .of_cells hT he
  refine ⟨h.lr, by rw [List.length_append], ?_, heap_set_ne hG (by omega), ?_, hN9.chg hcT (fun k hk => ⟨hb2 _ (by decide) k hk, hb2 _ (by decide) k hk⟩), ?_⟩
  · simpa using heap_setCell_same hT 1 (.slice a6 (L.length + M.length) c6)
  · exact hcT.rowOf (hc9.rowOf h.rules (fun k hk => by simp only [Option.mem_toList] at hk; exact row_notrow h.nodes.nodes hk (by decide))) (hb2 _ (by decide))
  · have h1 := h.chg.grown hg (fun k hk => .inr (row_beyond h.nodes.nodes hk).1)
    exact h1.trans hcT (fun j hj => .inr (by simp at hj; omega))
/-- A new row of one number. -/
theorem fresh_one {B : Nat} {W : World} {K : Nat} {z : Int} (hB : B ≤ K) (h : W.heap[K]? = some (.cells #[.int .i64 z] 3 (0, 0))) : FreshInts B W (some ⟨K, 0, none⟩) 1 [z] :=
  ⟨rfl, .inr ⟨K, 1, #[.int .i64 z], rfl, hB, h, Nat.le_refl _, by simp [maxLen], rfl, rfl⟩⟩
end Go.Proofs.Ytibgfgfmljhimaa

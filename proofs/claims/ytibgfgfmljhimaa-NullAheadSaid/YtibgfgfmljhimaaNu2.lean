/-
  Grammars built of bodies, and with something ahead of each body: what is right.
  Conditions: none.
-/
import Derived.Test.YtibgfgfmljhimaaNu1
set_option linter.unusedVariables false
set_option linter.unusedSimpArgs false
namespace Go.Proofs.Ytibgfgfmljhimaa

def Nd.shift (o : Int) (x : Nd) : Nd := { x with kids := x.kids.map (· + o) }
def movedL (l : List Nd) (o : Int) : List Nd := l.map (Nd.shift o)
theorem movedL_len (l : List Nd) (o : Int) : (movedL l o).length = l.length := by simp [movedL]
theorem shift_shift (a b : Int) (x : Nd) : (x.shift a).shift b = x.shift (a + b) := by
  simp only [Nd.shift, List.map_map]
  congr 1
  refine List.map_congr_left (fun k _ => ?_)
  simp only [Function.comp]; omega
theorem shift_zero (x : Nd) : x.shift 0 = x := by simp [Nd.shift]
theorem movedL_movedL (l : List Nd) (a b : Int) : movedL (movedL l a) b = movedL l (a + b) := by
  simp only [movedL, List.map_map]
  exact List.map_congr_left (fun x _ => shift_shift a b x)
theorem movedL_append (l m : List Nd) (a : Int) : movedL (l ++ m) a = movedL l a ++ movedL m a := by simp [movedL]
/-- The nodes of bodies, one behind the other. -/
def gramN : List (List Nd) → Nat → List Nd
  | [], _ => []
  | b :: bs, o => movedL b o ++ gramN bs (o + b.length)
def gramO : List (List Nd) → Nat → List Int
  | [], _ => []
  | b :: bs, o => (o : Int) :: gramO bs (o + b.length)

/-! ### 1. A segment stands elsewhere -/
def shiftP (d : Nat) (p : Nat × Nat) : Nat × Nat := (p.1 + d, p.2)
theorem aft_embed {ns xs : List Nd} {lo hi d : Nat} (hx : ∀ m, lo ≤ m → m < hi → xs[m + d]? = (ns[m]?).map (Nd.shift d)) :
    ∀ (f F n e h : Nat), lo ≤ n → aft ns F n = some (e, h) → e ≤ hi → aft xs f (n + d) = (aft ns f n).map (shiftP d) := by
  intro f
  induction f with
  | zero => intro F n e h _ _ _; rfl
  | succ f ih =>
    intro F n e h hlo hF he
    have hlt := aft_lt hF
    cases F with
    | zero => omega
    | succ F =>
      simp only [aft] at hF ⊢
      rw [hx n hlo (by omega), List.getElem?_eq_getElem hlt.2.1] at *
      simp only [Option.map_some]
      have hks := kidsAft_le (fun n e h h' => Nat.le_of_lt (aft_lt h').1) hF
      rw [show n + d + 1 = n + 1 + d by omega]
      -- the kids, each ahead of its end
      have key : ∀ (ks : List Int) (next high H e hh : Nat), lo ≤ next → kidsAft (aft ns F) ks next H = some (e, hh) → e ≤ hi →
          kidsAft (aft xs f) (ks.map (· + (d : Int))) (next + d) high = (kidsAft (aft ns f) ks next high).map (shiftP d) := by
        intro ks
        induction ks with
        | nil => intro next high H e hh _ _ _; rfl
        | cons k ks ihk =>
          intro next high H e hh hl h he
          simp only [kidsAft, List.map_cons] at h ⊢
          by_cases hk : k = (next : Int)
          · rw [if_pos hk] at h ⊢
            rw [if_pos (by omega)]
            cases hto : aft ns F next with
            | none => rw [hto] at h; cases h
            | some p =>
              obtain ⟨to, h1⟩ := p
              rw [hto] at h
              simp only at h
              have hle := (kidsAft_le (fun n e h h' => Nat.le_of_lt (aft_lt h').1) h).1
              have hlt2 := aft_lt hto
              rw [ih F next to h1 hl hto (by omega)]
              cases hf : aft ns f next with
              | none => rfl
              | some p =>
                obtain ⟨to2, h2⟩ := p
                have hm1 := aft_mono (Nat.le_max_left f F) hf
                have hm2 := aft_mono (Nat.le_max_right f F) hto
                rw [hm1] at hm2
                cases hm2
                exact ihk to _ _ e hh (by omega) h he
          · rw [if_neg hk] at h
            cases h
      exact key _ _ _ _ _ _ (by omega) hF he

theorem size_aft {g : Gr} (hr : rightB g = true) {n to h : Nat} (ha : aft g.nodes 16 n = some (to, h)) : sizeG g n = ((to - n : Nat) : Int) ∧ n + (to - n) = to ∧ to ≤ g.nodes.length := by
  have h1 := aft_lt ha
  obtain ⟨t, ht, _, _⟩ := right_tab hr
  obtain ⟨z, h', hz, hz1, _, _, h2⟩ := right_aft ht h1.2.1
  rw [ha] at h2
  simp only [Option.some.injEq, Prod.mk.injEq] at h2
  have h3 := (aft_cover ha).1
  refine ⟨?_, by omega, h3⟩
  unfold sizeG
  rw [ht]
  simp only
  rw [if_pos ⟨by omega, by omega⟩]
  simp [hz]; omega

/-! ### 2. Something ahead of each body -/
/-- A rule's body, its kids by their places in the row. -/
def bodyOf (g : Gr) (b : Int) : List Nd := movedL ((g.nodes.drop b.toNat).take (sizeG g b).toNat) (-b)
def wrapL (P : List Nd) (g : Gr) : List (List Nd) := g.rules.map fun r => P ++ movedL (bodyOf g r.body) P.length
def wrapR (rs : List Rl) (os : List Int) : List Rl := List.zipWith (fun r o => ⟨r.name, o⟩) rs os
def wrapG (P : List Nd) (g : Gr) : Gr := ⟨wrapR g.rules (gramO (wrapL P g) 0), gramN (wrapL P g) 0⟩
theorem gramO_len (bs : List (List Nd)) (o : Nat) : (gramO bs o).length = bs.length := by
  induction bs generalizing o with
  | nil => rfl
  | cons b bs ih => simp [gramO, ih]
theorem wrapR_names (rs : List Rl) (os : List Int) (h : os.length = rs.length) : (wrapR rs os).map (·.name) = rs.map (·.name) := by
  induction rs generalizing os with
  | nil => simp [wrapR]
  | cons r rs ih =>
    cases os with
    | nil => cases h
    | cons o os => simp only [wrapR, List.zipWith_cons_cons, List.map_cons]; congr 1; exact ih os (by simpa using h)
theorem ruleN_names {rs rs' : List Rl} (h : rs.map (·.name) = rs'.map (·.name)) (s : ByteArray) : ruleI rs s = ruleI rs' s := by
  have h1 : ∀ rs : List Rl, ruleN rs s = (rs.map (·.name)).findIdx fun n => n.toList == s.toList := fun rs => by rw [ruleN, List.findIdx_map]; rfl
  have h2 : rs.length = rs'.length := by simpa using congrArg List.length h
  rw [ruleI, ruleI, h1, h1, h, h2]
/-- What a front is, to those who measure: so many nodes, and one level. -/
def Front (P : List Nd) : Prop := ∀ (xs : List Nd) (o : Nat), (∀ j (h : j < P.length), xs[o + j]? = some (P[j].shift o)) →
  aft xs 16 o = match aft xs 15 (o + P.length) with | none => none | some (to, h) => some (to, max 2 (1 + h))
theorem bodyOf_at {g : Gr} (hr : rightB g = true) {from_ to h : Nat} (ha : aft g.nodes 16 from_ = some (to, h)) : bodyOf g from_ = movedL ((g.nodes.drop from_).take (to - from_)) (-(from_ : Int)) ∧ (bodyOf g from_).length = to - from_ := by
  obtain ⟨h1, h2, h3⟩ := size_aft hr ha
  have e : bodyOf g from_ = movedL ((g.nodes.drop from_).take (to - from_)) (-(from_ : Int)) := by
    unfold bodyOf; rw [h1]; simp
  refine ⟨e, ?_⟩
  rw [e, movedL_len, List.length_take, List.length_drop]; omega
theorem wrap_chain {P : List Nd} (hP : Front P) {g : Gr} (hr : rightB g = true) (X : Gr) (hn : X.rules.map (·.name) = g.rules.map (·.name)) :
    ∀ (rs : List Rl) (i from_ o : Nat) (A : List Nd), (∀ r ∈ rs, r ∈ g.rules) → chain g rs i from_ = some g.nodes.length → o = from_ + P.length * i → A.length = o →
      X.nodes = A ++ gramN (rs.map fun r => P ++ movedL (bodyOf g r.body) P.length) o →
      chain X (wrapR rs (gramO (rs.map fun r => P ++ movedL (bodyOf g r.body) P.length) o)) i o = if rs.all (fun r => (aft g.nodes 15 r.body.toNat).isSome) then some X.nodes.length else none := by
  intro rs
  induction rs with
  | nil =>
    intro i from_ o A _ h ho hA hX
    simp only [chain, Option.some.injEq] at h
    simp only [wrapR, List.map_nil, gramO, List.zipWith_nil_left, chain, List.all_nil, if_true]
    rw [hX]
    simp [gramN, hA]
  | cons r rs ih =>
    intro i from_ o A hm h ho hA hX
    simp only [chain] at h
    split at h
    · rename_i hc
      simp only [Bool.and_eq_true, decide_eq_true_eq] at hc
      cases ha : aft g.nodes 16 from_ with
      | none => rw [ha] at h; cases h
      | some p =>
        obtain ⟨to, hh⟩ := p
        rw [ha] at h
        simp only at h
        have hlt := aft_lt ha
        obtain ⟨hb1, hb2⟩ := bodyOf_at hr ha
        obtain ⟨_, hs2, hs3⟩ := size_aft hr ha
        rw [← hc.2] at hb1 hb2
        have hbl : (P ++ movedL (bodyOf g r.body) P.length).length = P.length + (to - from_) := by rw [List.length_append, movedL_len, hb2]
        -- where the body's nodes stand
        have hget : ∀ j (hj : j < (P ++ movedL (bodyOf g r.body) P.length).length), X.nodes[o + j]? = some (((P ++ movedL (bodyOf g r.body) P.length)[j]).shift o) := by
          intro j hj
          rw [hX, List.getElem?_append_right (by omega), hA, Nat.add_sub_cancel_left]
          simp only [List.map_cons, gramN]
          rw [List.getElem?_append_left (by rw [movedL_len]; exact hj)]
          generalize P ++ movedL (bodyOf g r.body) P.length = b at hj
          simp only [movedL, List.getElem?_map]
          rw [List.getElem?_eq_getElem hj]
          rfl
        have hfront := hP X.nodes o (fun j hj => by
          rw [hget j (by rw [hbl]; omega)]
          congr 2
          rw [List.getElem_append_left hj])
        have hemb : aft X.nodes 15 (from_ + (o + P.length - from_)) = (aft g.nodes 15 from_).map (shiftP (o + P.length - from_)) := by
          refine aft_embed (lo := from_) (hi := to) (fun m hm1 hm2 => ?_) 15 16 from_ to hh (Nat.le_refl _) ha (Nat.le_refl _)
          rw [show m + (o + P.length - from_) = o + (P.length + (m - from_)) by omega, hget _ (by rw [hbl]; omega)]
          rw [List.getElem_append_right (by omega)]
          simp only [Nat.add_sub_cancel_left]
          have hml : m < g.nodes.length := by omega
          rw [List.getElem?_eq_getElem hml, Option.map_some]
          congr 1
          have h9 : (movedL (bodyOf g r.body) (P.length : Int)) = ((g.nodes.drop from_).take (to - from_)).map (Nd.shift (-(from_ : Int) + (P.length : Int))) := by
            rw [hb1, movedL_movedL, hc.2]; rfl
          simp only [h9, List.getElem_map, List.getElem_take, List.getElem_drop, shift_shift]
          simp only [show from_ + (m - from_) = m by omega]
          congr 1
          omega
        rw [show from_ + (o + P.length - from_) = o + P.length by omega] at hemb
        simp only [List.map_cons, gramO, wrapR, List.zipWith_cons_cons, chain]
        rw [ruleN_names hn, if_pos (by simp only [Bool.and_eq_true, decide_eq_true_eq]; exact ⟨hc.1, trivial⟩), hfront, hemb]
        rw [List.all_cons, show r.body.toNat = from_ by omega]
        cases h15 : aft g.nodes 15 from_ with
        | none => simp
        | some p =>
          obtain ⟨to2, h2⟩ := p
          have hm1 := aft_mono (show 15 ≤ 16 by decide) h15
          rw [ha] at hm1
          cases hm1
          simp only [Option.map_some, Option.isSome_some, Bool.true_and, shiftP]
          have := ih (i + 1) to (o + (P ++ movedL (bodyOf g r.body) P.length).length) (A ++ movedL (P ++ movedL (bodyOf g r.body) P.length) o) (fun q hq => hm q (List.mem_cons_of_mem _ hq)) h
            (by rw [hbl, ho, Nat.mul_add]; omega) (by rw [List.length_append, movedL_len, hA]) (by rw [hX]; simp [gramN])
          rw [wrapR] at this
          rw [show to + (o + P.length - from_) = o + (P ++ movedL (bodyOf g r.body) P.length).length by rw [hbl]; omega]
          exact this
    · cases h
theorem gramN_len : ∀ (bs : List (List Nd)) (o : Nat), (gramN bs o).length = (bs.map List.length).sum := by
  intro bs
  induction bs with
  | nil => intro o; rfl
  | cons b bs ih => intro o; simp [gramN, ih, movedL_len]
theorem gramN_mem : ∀ (bs : List (List Nd)) (o : Nat) (x : Nd), x ∈ gramN bs o → ∃ b ∈ bs, ∃ y ∈ b, ∃ s, x = y.shift s := by
  intro bs
  induction bs with
  | nil => intro o x hx; cases hx
  | cons b bs ih =>
    intro o x hx
    simp only [gramN, List.mem_append] at hx
    rcases hx with hx | hx
    · simp only [movedL, List.mem_map] at hx
      obtain ⟨y, hy, rfl⟩ := hx
      exact ⟨b, List.mem_cons_self .., y, hy, _, rfl⟩
    · obtain ⟨b', hb, r⟩ := ih _ x hx
      exact ⟨b', List.mem_cons_of_mem _ hb, r⟩
theorem nodeB_shift (x : Nd) (s q : Int) : nodeB (x.shift s) q = nodeB x q := by simp [nodeB, Nd.shift]
theorem wrap_sum {P : List Nd} {g : Gr} (hr : rightB g = true) : ∀ (rs : List Rl) (i from_ : Nat), chain g rs i from_ = some g.nodes.length →
    ((rs.map fun r => P ++ movedL (bodyOf g r.body) P.length).map List.length).sum + from_ = g.nodes.length + P.length * rs.length := by
  intro rs
  induction rs with
  | nil => intro i from_ h; simp only [chain, Option.some.injEq] at h; simp [h]
  | cons r rs ih =>
    intro i from_ h
    simp only [chain] at h
    split at h
    · rename_i hc
      simp only [Bool.and_eq_true, decide_eq_true_eq] at hc
      cases ha : aft g.nodes 16 from_ with
      | none => rw [ha] at h; cases h
      | some p =>
        obtain ⟨to, hh⟩ := p
        rw [ha] at h
        simp only at h
        have hlt := aft_lt ha
        obtain ⟨hb1, hb2⟩ := bodyOf_at hr ha
        rw [← hc.2] at hb2
        have := ih _ _ h
        simp only [List.map_cons, List.sum_cons, List.length_append, movedL_len, hb2, List.length_cons, Nat.mul_add]
        omega
    · cases h
/-- A grammar with a front ahead of each body is right just if no body is too high. -/
theorem wrap_right {P : List Nd} (hP : Front P) {g : Gr} (hr : rightB g = true) (hq : ∀ x ∈ P, ∀ q, nodeB x q = true) (hs : g.nodes.length + P.length * g.rules.length ≤ 2048) :
    rightB (wrapG P g) = g.rules.all fun r => (aft g.nodes 15 r.body.toNat).isSome := by
  have hrl : (wrapG P g).rules.length = g.rules.length := by
    have := congrArg List.length (wrapR_names g.rules (gramO (wrapL P g) 0) (by rw [gramO_len]; simp [wrapL]))
    simpa [wrapG] using this
  have h0 := hr
  simp only [rightB, Bool.and_eq_true, beq_iff_eq] at hr
  obtain ⟨⟨h1, h2⟩, h3⟩ := hr
  have hnl : (wrapG P g).nodes.length = g.nodes.length + P.length * g.rules.length := by
    have := wrap_sum (P := P) h0 g.rules 0 0 h3
    simp only [wrapG, gramN_len, wrapL]
    omega
  have hsz : sizesB (wrapG P g) = true := by
    simp only [sizesB, hrl, hnl, Bool.and_eq_true, decide_eq_true_eq] at h1 ⊢
    exact ⟨h1.1, hs⟩
  have hall : allB (wrapG P g) = true := by
    simp only [allB, hrl, List.all_eq_true] at h2 ⊢
    intro x hx
    obtain ⟨b, hb, y, hy, s, rfl⟩ := gramN_mem _ _ _ hx
    rw [nodeB_shift]
    simp only [wrapL, List.mem_map] at hb
    obtain ⟨r, _, rfl⟩ := hb
    rcases List.mem_append.1 hy with hy | hy
    · exact hq y hy _
    · simp only [movedL, List.mem_map] at hy
      obtain ⟨z, hz, rfl⟩ := hy
      rw [nodeB_shift]
      simp only [bodyOf, movedL, List.mem_map] at hz
      obtain ⟨u, hu, rfl⟩ := hz
      rw [nodeB_shift]
      exact h2 u (List.mem_of_mem_drop (List.mem_of_mem_take hu))
  have hch := wrap_chain hP h0 (wrapG P g) (wrapR_names g.rules (gramO (wrapL P g) 0) (by rw [gramO_len]; simp [wrapL])) g.rules 0 0 0 [] (fun r h => h) h3 (by omega) rfl (by simp [wrapG, wrapL])
  have hch' : chain (wrapG P g) (wrapG P g).rules 0 0 = _ := hch
  simp only [rightB, hsz, hall, hch', Bool.true_and]
  split
  · rename_i h; simp [h]
  · rename_i h; simp only [Bool.not_eq_true] at h; rw [h]; rfl
def bareN (k : Int) : Nd := ⟨k, 0, 0, 0, 0, ⟨#[]⟩, 0, 0, []⟩
def hardP : List Nd := [{ bareN 6 with kids := [1, 2] }, bareN 2]
def softP : List Nd := [{ bareN 10 with kids := [1] }]
theorem front_hard : Front hardP := by
  intro xs o h
  have h0 := h 0 (by decide)
  have h1 := h 1 (by decide)
  simp only [hardP, List.getElem_cons_zero, List.getElem_cons_succ, Nat.add_zero] at h0 h1
  have e1 : aft xs 15 (o + 1) = some (o + 1 + 1, 1) := by
    simp only [aft, h1]; rfl
  show aft xs (15 + 1) o = _
  rw [aft, h0]
  simp only [Nd.shift, bareN, List.map_cons, List.map_nil, kidsAft]
  rw [if_pos (by omega), e1]
  simp only
  rw [if_pos (by omega)]
  show (match aft xs 15 (o + 2) with | none => none | some (to, h) => some (to, max (max 1 (1 + 1)) (1 + h))) = _
  rfl
theorem front_soft : Front softP := by
  intro xs o h
  have h0 := h 0 (by decide)
  simp only [softP, List.getElem_cons_zero, Nat.add_zero] at h0
  show aft xs (15 + 1) o = _
  rw [aft, h0]
  simp only [Nd.shift, bareN, List.map_cons, List.map_nil, kidsAft]
  rw [if_pos (by omega)]
  cases ha : aft xs 15 (o + 1) with
  | none => simp [softP, ha]
  | some p =>
    obtain ⟨to, h⟩ := p
    have := (aft_lt ha).2.2.1
    simp only [softP, List.length_singleton, ha]
    simp; omega
end Go.Proofs.Ytibgfgfmljhimaa

/-
 Graphs in plain words: what is told of the parts in their order; a graph turned round; a number more; the counts by which the parts are ordered.
 Conditions: none.
-/
import Derived.Test.YtlklmpjakeedcaaGreatDoorSEnCpA
set_option linter.unusedVariables false
set_option linter.unusedSimpArgs false
set_option linter.unnecessarySimpa false
namespace Go.Proofs.YtlklmpjakeedcaaGreatDoor.Cp
section
variable {G : List (List Nat)} {part : Nat → Int} {parts : List (List Nat)}
theorem exists_next {os : List Nat} (h : ∃ p, p < parts.length ∧ ready G part os p) : ∃ p, Next G part parts os p := by
 obtain ⟨p, hp, hr⟩ := h
 have key : ∀ m p, headO parts p = m → p < parts.length → ready G part os p → ∃ p, Next G part parts os p := by
  intro m
  induction m using Nat.strongRecOn with
  | ind m ih =>
   intro p e hp hr
   by_cases k : ∃ q, q < parts.length ∧ ready G part os q ∧ headO parts q < headO parts p
   ·obtain ⟨q, hq, hqr, hl⟩ := k
    exact ih _ (by omega) q rfl hq hqr
   ·exact ⟨p, hp, hr, fun q hq hqr => Classical.byContradiction fun h => k ⟨q, hq, hqr, by omega⟩⟩
 exact key _ p rfl hp hr
theorem ord_full (hG : RG G) (hP : Parted G part parts) : ∃ os, Ord G part parts os ∧ os.length = parts.length := by
 have : ∀ k, k ≤ parts.length → ∃ os, Ord G part parts os ∧ os.length = k := by
  intro k
  induction k with
  | zero => intro _; exact ⟨[], ord_nil, rfl⟩
  | succ k ih =>
   intro hk
   obtain ⟨os, h, e⟩ := ih (by omega)
   obtain ⟨p, hp⟩ := exists_next (ord_more hG hP h (by omega))
   exact ⟨os ++ [p], ord_next hG hP h hp, by rw [List.length_append, List.length_singleton, e]⟩
 exact this _ (Nat.le_refl _)
/-- What is told of a graph's parts in their order. -/
structure Told (G : List (List Nat)) (L : List (List Nat)) : Prop where
 place : ∀ a, a < G.length → 0 ≤ placeR L a ∧ placeR L a < L.length
 none : ∀ a, G.length ≤ a → placeR L a = -1
 same : ∀ a b, a < G.length → b < G.length → (placeR L a = placeR L b ↔ Reach G a b ∧ Reach G b a)
 rows : ∀ p, (h : p < L.length) → L[p] = (List.range G.length).filter (fun i => decide (placeR L i = p))
 some : ∀ p, p < L.length → ∃ a, a < G.length ∧ placeR L a = p
 down : ∀ a, a < G.length → ∀ b ∈ row G a, placeR L b ≤ placeR L a
 least : ∀ q p, q < p → p < L.length → (∀ a, a < G.length → placeR L a = p → ∀ b ∈ row G a, placeR L b ≠ p → placeR L b < q) → headO L q < headO L p
theorem told_of (hG : RG G) (hP : Parted G part parts) {os : List Nat} (h : Ord G part parts os) (hl : os.length = parts.length) : partsR G = os.map (fun p => parts.getD p []) ∧ Told G (partsR G) ∧ ∀ (i : Nat) (hi : i < os.length) a, a < G.length → (placeR (partsR G) a = (i : Int) ↔ part a = (os[i] : Nat)) := by
 have hL := ord_all hG hP h hl
 rw [hL]
 have hall := (nodup_len h.nodup h.lt).2 hl
 have hidx : ∀ a, a < G.length → ∃ i, ∃ hi : i < os.length, part a = (os[i] : Nat) ∧ placeR (os.map (fun p => parts.getD p [])) a = (i : Int) := fun a ha => by
  have h0 := hP.pos a ha; have h1 := hP.most a
  obtain ⟨i, hi, e⟩ := List.getElem_of_mem (hall (part a).toNat (by omega))
  exact ⟨i, hi, by rw [e]; omega, place_of hP ha (p := (part a).toNat) (by omega) os h.lt h.nodup i hi e⟩
 have hinj : ∀ i j (hi : i < os.length) (hj : j < os.length), os[i] = os[j] → i = j := fun i j hi hj e => (List.getElem_inj h.nodup).1 e
 have hplace : ∀ (i : Nat) (hi : i < os.length) a, a < G.length → (placeR (os.map (fun p => parts.getD p [])) a = (i : Int) ↔ part a = (os[i] : Nat)) := fun i hi a ha => by
  obtain ⟨j, hj, e1, e2⟩ := hidx a ha
  rw [e1, e2]
  constructor
  ·intro e; obtain rfl : j = i := by omega
   rfl
  ·intro e; have := hinj j i hj hi (by omega); omega
 have hlen : (os.map (fun p => parts.getD p [])).length = os.length := List.length_map ..
 have hget : ∀ i (hi : i < os.length), (os.map (fun p => parts.getD p []))[i]'(by rw [hlen]; exact hi) = parts.getD os[i] [] := fun i hi => by simp
 refine ⟨rfl, ⟨fun a ha => ?_, fun a ha => ?_, fun a b ha hb => ?_, fun p hp => ?_, fun p hp => ?_, fun a ha b hb => ?_, fun q p hqp hp hx => ?_⟩, hplace⟩
 ·obtain ⟨i, hi, _, e⟩ := hidx a ha
  rw [e, hlen]; omega
 ·refine place_out (fun l hl hal => ?_)
  obtain ⟨p, hp, rfl⟩ := List.mem_map.1 hl
  have hpl := h.lt p hp
  rw [show parts.getD p [] = parts[p] by simp [hpl], hP.rows p hpl] at hal
  have := List.mem_range.1 (List.mem_filter.1 hal).1
  omega
 ·obtain ⟨i, hi, e1, e2⟩ := hidx a ha
  obtain ⟨j, hj, e3, e4⟩ := hidx b hb
  rw [← hP.scc a b ha, e2, e4, e1, e3]
  constructor
  ·intro e; obtain rfl : i = j := by omega
   rfl
  ·intro e; have := hinj j i hj hi (by omega); omega
 ·have hp' : p < os.length := by rw [hlen] at hp; exact hp
  have hpl := h.lt _ (List.getElem_mem hp')
  rw [hget p hp', show parts.getD os[p] [] = parts[os[p]] by simp [hpl], hP.rows _ hpl]
  apply List.filter_congr
  intro i hi
  rw [Bool.eq_iff_iff, decide_eq_true_eq, decide_eq_true_eq, hplace p hp' i (List.mem_range.1 hi)]
 ·have hp' : p < os.length := by rw [hlen] at hp; exact hp
  obtain ⟨a, ha, e⟩ := hP.some _ (h.lt _ (List.getElem_mem hp'))
  exact ⟨a, ha, (hplace p hp' a ha).2 e⟩
 ·obtain ⟨i, hi, e1, e2⟩ := hidx a ha
  by_cases k : part b = (os[i] : Nat)
  ·rw [e2, (hplace i hi b (hG.lt a b hb)).2 k]; exact Int.le_refl _
  ·obtain ⟨r, hr, e⟩ := putO_iff.1 ((h.step i hi).2.1.2 a ha e1 b hb k)
   obtain ⟨j, hj, e'⟩ := List.getElem_of_mem hr
   have hj' : j < os.length ∧ j < i := by rw [List.length_take] at hj; omega
   rw [List.getElem_take] at e'
   rw [e2, (hplace j hj'.1 b (hG.lt a b hb)).2 (by rw [e']; exact e)]; omega
 ·have hp' : p < os.length := by rw [hlen] at hp; exact hp
  have hq' : q < os.length := by omega
  have hpl := h.lt _ (List.getElem_mem hp')
  have hh : ∀ i (hi : i < os.length), headO (os.map (fun p => parts.getD p [])) i = headO parts os[i] := fun i hi => by
   unfold headO; congr 2
   rw [← hget i hi]
   simp [hi]
  rw [hh q hq', hh p hp']
  have h1 := (h.step q hq').2.2 os[p] hpl ⟨fun k => ?_, fun a ha hpa b hb hbp => ?_⟩
  ·have h2 := (head_of hP (h.lt _ (List.getElem_mem hq'))).2.1
   have h3 := (head_of hP hpl).2.1
   refine Nat.lt_of_le_of_ne h1 (fun e => ?_)
   rw [e, h3] at h2
   have := hinj p q hp' hq' (by omega)
   omega
  ·obtain ⟨j, hj, e⟩ := List.getElem_of_mem k
   have hj' : j < os.length ∧ j < q := by rw [List.length_take] at hj; omega
   rw [List.getElem_take] at e
   have := hinj j p hj'.1 hp' e
   omega
  ·have hbl := hG.lt a b hb
   obtain ⟨j, hj, e1, e2⟩ := hidx b hbl
   have := hx a ha ((hplace p hp' a ha).2 hpa) b hb (fun e => hbp ((hplace p hp' b hbl).1 e))
   rw [e2] at this
   exact putO_iff.2 ⟨os[j], by
    rw [List.mem_take_iff_getElem]
    exact ⟨j, by omega, rfl⟩, e1⟩
theorem told (hG : RG G) : Told G (partsR G) := by
 obtain ⟨os, h, hl⟩ := ord_full hG (search_parted hG).1
 exact (told_of hG (search_parted hG).1 h hl).2.1
end
section
variable {G : List (List Nat)}
/-- A row that rises is told by what is in it. -/
theorem rise_ext {l m : List Nat} (hl : l.Pairwise (· < ·)) (hm : m.Pairwise (· < ·)) (h : ∀ x, x ∈ l ↔ x ∈ m) : l = m := by
 induction l generalizing m with
 | nil =>
  cases m with
  | nil => rfl
  | cons y m => have := (h y).2 (List.mem_cons_self ..); cases this
 | cons x l ih =>
  cases m with
  | nil => have := (h x).1 (List.mem_cons_self ..); cases this
  | cons y m =>
   obtain ⟨l1, l2⟩ := List.pairwise_cons.1 hl
   obtain ⟨m1, m2⟩ := List.pairwise_cons.1 hm
   have e : x = y := by
    rcases List.mem_cons.1 ((h x).1 (List.mem_cons_self ..)) with e | k1
    ·exact e
    ·rcases List.mem_cons.1 ((h y).2 (List.mem_cons_self ..)) with e | k2
     ·exact e.symm
     ·have := m1 x k1; have := l1 y k2; omega
   subst e
   congr 1
   refine ih l2 m2 (fun z => ⟨fun hz => ?_, fun hz => ?_⟩)
   ·rcases List.mem_cons.1 ((h z).1 (List.mem_cons_of_mem _ hz)) with e | k
    ·subst e; exact absurd (l1 z hz) (Nat.lt_irrefl _)
    ·exact k
   ·rcases List.mem_cons.1 ((h z).2 (List.mem_cons_of_mem _ hz)) with e | k
    ·subst e; exact absurd (m1 z hz) (Nat.lt_irrefl _)
    ·exact k
theorem rise_filter (n : Nat) (p : Nat → Bool) : ((List.range n).filter p).Pairwise (· < ·) := List.Pairwise.filter _ List.pairwise_lt_range
theorem row_mem {a : Nat} (h : row G a ≠ []) : a < G.length := by
 apply Classical.byContradiction
 intro k
 exact h (by unfold row; rw [List.getD_eq_getElem?_getD, List.getElem?_eq_none (by omega)]; rfl)
theorem row_lt {a b : Nat} (h : b ∈ row G a) : a < G.length := row_mem (List.ne_nil_of_mem h)

/-! Leading on. -/
/-- Is a number's part a ring? -/
def ringR (G : List (List Nat)) (a : Nat) : Bool := decide (1 < ((partsR G).getD (placeR (partsR G) a).toNat []).length) || (row G a).contains a
theorem told_row {L : List (List Nat)} (h : Told G L) {a : Nat} (ha : a < G.length) : ∃ p, p < L.length ∧ placeR L a = (p : Int) ∧ L.getD p [] = (List.range G.length).filter (fun i => decide (placeR L i = (p : Int))) ∧ ∀ i, i < G.length → (placeR L i = (p : Int) ↔ Reach G a i ∧ Reach G i a) := by
 obtain ⟨h0, h1⟩ := h.place a ha
 have hp : (placeR L a).toNat < L.length := by omega
 refine ⟨(placeR L a).toNat, by omega, by omega, ?_, fun i hi => ?_⟩
 ·rw [show L.getD (placeR L a).toNat [] = L[(placeR L a).toNat] by simp [hp], h.rows _ hp]
 ·rw [← h.same a i ha hi]
  omega
/-! A graph turned round. -/
/-! A number more. -/
end
section
variable {G : List (List Nat)}
theorem leave_met (n : Nat) (s : TS) (a : Nat) : (leaveT n s a).met = s.met := by unfold leaveT; split <;> rfl
theorem leave_clock (n : Nat) (s : TS) (a : Nat) : (leaveT n s a).clock = s.clock := by unfold leaveT; split <;> rfl
theorem unmet_congr {n : Nat} {s t : TS} (h : s.met = t.met) : unmet n s = unmet n t := by unfold unmet; rw [h]
/-- The clock is what was met. -/
def clk (n : Nat) (s : TS) : Nat := s.clock + unmet n s
theorem visit_clk (hG : RG G) (k : Nat) : ∀ s a, a < G.length → clk G.length (visitT G k s a) ≤ clk G.length s := by
 induction k with
 | zero => intro s a _; exact Nat.le_refl _
 | succ k ih =>
  intro s a ha
  rcases Nat.eq_zero_or_pos (s.met a) with e | e
  ·rw [visitT_succ G k s a e]
   have hmid : ∀ j, j ≤ (row G a).length → clk G.length (midT G k s a j) ≤ clk G.length s := by
    intro j
    induction j with
    | zero =>
     intro _
     have := unmet_enter ha e
     show s.clock + 1 + unmet G.length (enterT s a) ≤ s.clock + unmet G.length s
     omega
    | succ j ihj =>
     intro hj
     have hjl : j < (row G a).length := by omega
     rw [midT_succ G k s a j hjl]
     have h1 := ihj (by omega)
     have h2 := ih (midT G k s a j) _ (hG.lt a _ (List.getElem_mem hjl))
     have h3 : clk G.length (seeT (visitT G k (midT G k s a j) (row G a)[j]) a (row G a)[j]) = clk G.length (visitT G k (midT G k s a j) (row G a)[j]) := by
      unfold clk; rw [see_clock, unmet_congr (see_met _ _ _)]
     omega
   have h1 := hmid _ (Nat.le_refl _)
   have h2 : clk G.length (leaveT G.length (midT G k s a (row G a).length) a) = clk G.length (midT G k s a (row G a).length) := by
    unfold clk; rw [leave_clock, unmet_congr (leave_met _ _ _)]
   omega
  ·rw [visitT_met G _ s a e]; exact Nat.le_refl _
theorem mid_clk (hG : RG G) (k : Nat) {s : TS} {a : Nat} (ha : a < G.length) (e : s.met a = 0) (j : Nat) (hj : j ≤ (row G a).length) : clk G.length (midT G k s a j) ≤ clk G.length s := by
 induction j with
 | zero =>
  have := unmet_enter ha e
  show s.clock + 1 + unmet G.length (enterT s a) ≤ s.clock + unmet G.length s
  omega
 | succ j ihj =>
  have hjl : j < (row G a).length := by omega
  rw [midT_succ G k s a j hjl]
  have h1 := ihj (by omega)
  have h2 := visit_clk hG k (midT G k s a j) _ (hG.lt a _ (List.getElem_mem hjl))
  have h3 : clk G.length (seeT (visitT G k (midT G k s a j) (row G a)[j]) a (row G a)[j]) = clk G.length (visitT G k (midT G k s a j) (row G a)[j]) := by
   unfold clk; rw [see_clock, unmet_congr (see_met _ _ _)]
  omega
theorem start_clk (n : Nat) : clk n startT ≤ n := by
 unfold clk; show 0 + _ ≤ _; have := unmet_le n startT; omega
theorem search_clk (hG : RG G) (j : Nat) (hj : j ≤ G.length) : clk G.length (searchT G j) ≤ G.length := by
 induction j with
 | zero => exact start_clk _
 | succ j ih =>
  rw [searchT_succ]
  exact Nat.le_trans (visit_clk hG _ _ _ (by omega)) (ih (by omega))
theorem clk_lt {n : Nat} {s : TS} {a : Nat} (ha : a < n) (e : s.met a = 0) (h : clk n s ≤ n) : s.clock + 1 ≤ n := by
 have := unmet_enter ha e
 unfold clk at h; omega
/-- What is popped, sorted, is the part. -/
theorem wf_aside_lt {C : List Nat} {s : TS} (h : Wf G C s) : ∀ x ∈ s.aside, x < G.length := fun x hx => h.lt x (h.met_of hx)
theorem wf_nodup {C : List Nat} {s : TS} (h : Wf G C s) : s.aside.Nodup := by
 rw [List.nodup_iff_pairwise_ne]
 exact h.sorted.imp (fun hxy e => by subst e; omega)
theorem top_take {l : List Nat} {a : Nat} (h : a ∈ l) : ∃ j, j < l.length ∧ l[j]? = some a ∧ (∀ i, i < j → l[i]? ≠ some a) ∧ topT l a = l.take (j + 1) ∧ dropT l a = l.drop (j + 1) := by
 induction l with
 | nil => cases h
 | cons x l ih =>
  by_cases e : x = a
  ·subst e
   exact ⟨0, by simp, rfl, fun i hi => absurd hi (Nat.not_lt_zero _), by simp [topT], by simp [dropT]⟩
  ·obtain ⟨j, h1, h2, h3, h4, h5⟩ := ih ((List.mem_cons.1 h).resolve_left (fun k => e k.symm))
   refine ⟨j + 1, by simp; omega, by simpa using h2, fun i hi => ?_, ?_, ?_⟩
   ·cases i with
    | zero => simpa using e
    | succ i => simpa using h3 i (by omega)
   ·have hx : (x != a) = true := by simpa using e
    rw [List.take_succ_cons, ← h4]
    unfold topT; rw [List.takeWhile_cons_of_pos (by simpa using e)]; rfl
   ·rw [List.drop_succ_cons, ← h5]
    unfold dropT; rw [List.dropWhile_cons_of_pos (by simpa using e)]
def intsG (G : List (List Nat)) : List (List Int) := G.map (fun l => l.map (fun (x : Nat) => (x : Int)))
/-- The row that a sort leaves: rising, of the same numbers. -/
theorem sorted_part {n : Nat} {l : List Nat} {z : List Int} (hn : l.Nodup) (hl : ∀ x ∈ l, x < n) (hp : z.Perm (l.map (fun (x : Nat) => (x : Int)))) (hs : z.Pairwise (· ≤ ·)) : z = ((List.range n).filter (fun i => decide (i ∈ l))).map (fun (x : Nat) => (x : Int)) := by
 have hz : ∀ x ∈ z, ∃ k : Nat, x = (k : Int) ∧ k ∈ l := fun x hx => by
  obtain ⟨k, hk, e⟩ := List.mem_map.1 (hp.mem_iff.1 hx)
  exact ⟨k, e.symm, hk⟩
 have hznd : z.Nodup := by
  rw [hp.nodup_iff, List.nodup_iff_pairwise_ne, List.pairwise_map]
  exact (List.nodup_iff_pairwise_ne.1 hn).imp (fun h e => h (by omega))
 have hzt : z = (z.map Int.toNat).map (fun (x : Nat) => (x : Int)) := by
  rw [List.map_map]
  have : z.map ((fun (x : Nat) => (x : Int)) ∘ Int.toNat) = z.map id := List.map_congr_left (fun x hx => by obtain ⟨k, e, _⟩ := hz x hx; show ((x.toNat : Nat) : Int) = x; omega)
  rw [this, List.map_id]
 rw [hzt]
 congr 1
 refine rise_ext ?_ (rise_filter _ _) (fun x => ?_)
 ·rw [List.pairwise_map]
  have h2 := List.nodup_iff_pairwise_ne.1 hznd
  refine (hs.and h2).imp_of_mem (fun {a b} ha hb h => ?_)
  obtain ⟨ka, ea, _⟩ := hz a ha
  obtain ⟨kb, eb, _⟩ := hz b hb
  obtain ⟨q1, q2⟩ := h
  omega
 ·simp only [List.mem_map, List.mem_filter, List.mem_range, decide_eq_true_eq]
  constructor
  ·rintro ⟨y, hy, rfl⟩
   obtain ⟨k, e, hk⟩ := hz y hy
   have : y.toNat = k := by omega
   rw [this]; exact ⟨hl k hk, hk⟩
  ·rintro ⟨_, hx⟩
   exact ⟨(x : Int), hp.mem_iff.2 (List.mem_map.2 ⟨x, hx, rfl⟩), by omega⟩
end
section
variable {G : List (List Nat)} {part : Nat → Int} {parts : List (List Nat)}
/-! Counting edges, one behind the other. -/
theorem leftN_nil (os : List Nat) (p : Nat) : leftN part os p [] = 0 := rfl
theorem putO_nil (a : Nat) : putO part [] a = false := rfl
theorem leftN_snoc (p : Nat) (es : List (Nat × Nat)) (a b : Nat) : leftN part [] p (es ++ [(a, b)]) = leftN part [] p es + (if part a = (p : Int) ∧ part b ≠ (p : Int) then 1 else 0) := by
 unfold leftN
 rw [List.countP_append, List.countP_cons, List.countP_nil, putO_nil]
 congr 1
 by_cases h1 : part a = (p : Int) <;> by_cases h2 : part b = (p : Int) <;> simp [h1, h2]
theorem fromO_snoc (q : Nat) (es : List (Nat × Nat)) (a b : Nat) : fromO part (es ++ [(a, b)]) q = fromO part es q ++ (if part b = (q : Int) ∧ part a ≠ (q : Int) then [part a] else []) := by
 unfold fromO
 rw [List.filter_append, List.map_append]
 congr 1
 by_cases h1 : part b = (q : Int) <;> by_cases h2 : part a = (q : Int) <;> simp [h1, h2]
/-- The counts so far. -/
def lefts (part : Nat → Int) (es : List (Nat × Nat)) : Nat → Int := fun p => (leftN part [] p es : Int)
theorem lefts_same {es : List (Nat × Nat)} {a b : Nat} (h : part a = part b) : lefts part (es ++ [(a, b)]) = lefts part es ∧ fromO part (es ++ [(a, b)]) = fromO part es := by
 constructor
 ·funext p; unfold lefts; rw [leftN_snoc, h]; simp
 ·funext q; rw [fromO_snoc, h]; simp
theorem lefts_more {es : List (Nat × Nat)} {a b p q : Nat} (ha : part a = (p : Int)) (hb : part b = (q : Int)) (h : p ≠ q) : lefts part (es ++ [(a, b)]) = upd (lefts part es) p (lefts part es p + 1) ∧ fromO part (es ++ [(a, b)]) = upd (fromO part es) q (fromO part es q ++ [(p : Int)]) := by
 constructor
 ·funext r; unfold lefts; rw [leftN_snoc, ha, hb]
  by_cases e : r = p
  ·subst e
   rw [upd_same, if_pos ⟨rfl, by omega⟩]; rfl
  ·rw [upd_other _ _ e, if_neg (by omega)]; rfl
 ·funext r; rw [fromO_snoc, ha, hb]
  by_cases e : r = q
  ·subst e
   rw [upd_same, if_pos ⟨rfl, by omega⟩]
  ·rw [upd_other _ _ e, if_neg (by omega), List.append_nil]
theorem lefts_all : ∀ p, lefts part (edges G) p = leftO part [] (edges G) p := fun p => by unfold lefts leftO; rw [if_neg (by simp)]
theorem edges_len (hG : RG G) : (edges G).length ≤ 64 * 64 := by
 unfold edges
 have key : ∀ l : List Nat, (l.flatMap (fun a => (row G a).map (fun b => (a, b)))).length ≤ l.length * 64 := by
  intro l
  induction l with
  | nil => simp
  | cons a l ih =>
   rw [List.flatMap_cons, List.length_append, List.length_map, List.length_cons]
   have : (row G a).length ≤ G.length := by
    have := len_sub (l := row G a) (m := List.range G.length) ((hG.rise a).imp (fun h => Nat.ne_of_lt h)) (fun x hx => List.mem_range.2 (hG.lt a x hx))
    rwa [List.length_range] at this
   have := hG.few
   omega
 have := key (List.range G.length)
 rw [List.length_range] at this
 have := hG.few
 omega
theorem lefts_small (hG : RG G) {es : List (Nat × Nat)} (h : ∃ r, es ++ r = edges G) (p : Nat) : 0 ≤ lefts part es p ∧ lefts part es p ≤ 4096 := by
 obtain ⟨r, h⟩ := h
 have h1 := edges_len hG
 rw [← h, List.length_append] at h1
 have h2 : leftN part [] p es ≤ es.length := by unfold leftN; exact List.countP_le_length
 unfold lefts; omega
theorem leftO_small (hG : RG G) (os : List Nat) (p : Nat) : -1 ≤ leftO part os (edges G) p ∧ leftO part os (edges G) p ≤ 4096 := by
 have h1 := edges_len hG
 have h2 : leftN part os p (edges G) ≤ (edges G).length := by unfold leftN; exact List.countP_le_length
 unfold leftO; split <;> omega
theorem from_small (hG : RG G) (hP : Parted G part parts) (q : Nat) : (fromO part (edges G) q).length ≤ 4096 ∧ ∀ x ∈ fromO part (edges G) q, 0 ≤ x ∧ x < parts.length := by
 constructor
 ·have h1 := edges_len hG
  have : (fromO part (edges G) q).length ≤ (edges G).length := by unfold fromO; rw [List.length_map]; exact List.length_filter_le ..
  omega
 ·intro x hx
  obtain ⟨e, he, rfl⟩ := List.mem_map.1 hx
  have h1 := (mem_edges.1 (List.mem_filter.1 he).1).1
  exact ⟨hP.pos _ h1, hP.most _⟩
/-- The edges of rows so far: all of the rows ahead, and so many of the next. -/
def edgesTo (G : List (List Nat)) (i j : Nat) : List (Nat × Nat) := (List.range i).flatMap (fun a => (row G a).map (fun b => (a, b))) ++ ((row G i).take j).map (fun b => (i, b))
theorem edgesTo_zero (i : Nat) : edgesTo G (i + 1) 0 = edgesTo G i (row G i).length := by
 unfold edgesTo
 rw [List.take_length, List.take_zero, List.map_nil, List.append_nil, List.range_succ, List.flatMap_append]
 simp
theorem edgesTo_succ {i j : Nat} (hj : j < (row G i).length) : edgesTo G i (j + 1) = edgesTo G i j ++ [(i, (row G i)[j])] := by
 unfold edgesTo
 rw [List.take_succ_eq_append_getElem hj, List.map_append, ← List.append_assoc]; rfl
theorem edgesTo_all : edgesTo G G.length 0 = edges G := by unfold edgesTo edges; simp
theorem edgesTo_pre {i j : Nat} (hi : i ≤ G.length) : ∃ r, edgesTo G i j ++ r = edges G := by
 rcases Nat.lt_or_ge i G.length with h | h
 ·refine ⟨((row G i).drop j).map (fun b => (i, b)) ++ (List.range' (i + 1) (G.length - (i + 1))).flatMap (fun a => (row G a).map (fun b => (a, b))), ?_⟩
  unfold edgesTo edges
  have : List.range G.length = List.range i ++ i :: List.range' (i + 1) (G.length - (i + 1)) := by
   have h1 := List.range'_append_1 (s := 0) (m := i) (n := (G.length - (i + 1)) + 1)
   rw [show i + ((G.length - (i + 1)) + 1) = G.length by omega, Nat.zero_add, List.range'_succ] at h1
   rw [List.range_eq_range', List.range_eq_range', ← h1]
  rw [this, List.flatMap_append, List.flatMap_cons, List.append_assoc]
  congr 1
  rw [← List.append_assoc, ← List.map_append, List.take_append_drop]
 ·obtain rfl : i = G.length := by omega
  have : row G G.length = [] := by unfold row; rw [List.getD_eq_getElem?_getD, List.getElem?_eq_none (Nat.le_refl _)]; rfl
  exact ⟨[], by unfold edgesTo edges; rw [this]; simp⟩

/-! Which part is next: the best so far. -/
/-- The best of so many: below 0 if there is none. -/
structure Best (G : List (List Nat)) (part : Nat → Int) (parts : List (List Nat)) (os : List Nat) (i : Nat) (x : Int) : Prop where
 none : x < 0 → x = -1 ∧ ∀ p, p < i → leftO part os (edges G) p ≠ 0
 some : 0 ≤ x → x < i ∧ leftO part os (edges G) x.toNat = 0 ∧ ∀ p, p < i → leftO part os (edges G) p = 0 → headO parts x.toNat ≤ headO parts p
theorem best_zero (os : List Nat) : Best G part parts os 0 (-1) := ⟨fun _ => ⟨rfl, fun p h => absurd h (Nat.not_lt_zero _)⟩, fun h => by omega⟩
theorem best_skip {os : List Nat} {i : Nat} {x : Int} (h : Best G part parts os i x) (hk : leftO part os (edges G) i ≠ 0) : Best G part parts os (i + 1) x := by
 refine ⟨fun hx => ⟨(h.none hx).1, fun p hp => ?_⟩, fun hx => ?_⟩
 ·by_cases e : p = i
  ·subst e; exact hk
  ·exact (h.none hx).2 p (by omega)
 ·obtain ⟨h1, h2, h3⟩ := h.some hx
  refine ⟨by omega, h2, fun p hp h0 => ?_⟩
  by_cases e : p = i
  ·subst e; exact absurd h0 hk
  ·exact h3 p (by omega) h0
theorem best_keep {os : List Nat} {i : Nat} {x : Int} (h : Best G part parts os i x) (hx : 0 ≤ x) (hk : headO parts x.toNat ≤ headO parts i) : Best G part parts os (i + 1) x := by
 obtain ⟨h1, h2, h3⟩ := h.some hx
 refine ⟨fun h => by omega, fun _ => ⟨by omega, h2, fun p hp h0 => ?_⟩⟩
 by_cases e : p = i
 ·subst e; exact hk
 ·exact h3 p (by omega) h0
theorem best_take {os : List Nat} {i : Nat} {x : Int} (h : Best G part parts os i x) (h0 : leftO part os (edges G) i = 0) (hk : x < 0 ∨ headO parts i < headO parts x.toNat) : Best G part parts os (i + 1) (i : Int) := by
 refine ⟨fun h => by omega, fun _ => ⟨by omega, h0, fun p hp hp0 => ?_⟩⟩
 rw [show ((i : Int)).toNat = i by omega]
 by_cases e : p = i
 ·subst e; exact Nat.le_refl _
 ·rcases Int.lt_or_le x 0 with k | k
  ·exact absurd hp0 ((h.none k).2 p (by omega))
  ·have := (h.some k).2.2 p (by omega) hp0
   rcases hk with k' | k'
   ·omega
   ·omega
theorem best_next (hG : RG G) (hP : Parted G part parts) {os : List Nat} (ho : Ord G part parts os) (hl : os.length < parts.length) {x : Int} (h : Best G part parts os parts.length x) : ∃ q : Nat, x = (q : Int) ∧ Next G part parts os q := by
 obtain ⟨p, hp, hr⟩ := ord_more hG hP ho hl
 rcases Int.lt_or_le x 0 with k | k
 ·exact absurd (left_ready.2 hr) ((h.none k).2 p hp)
 ·obtain ⟨h1, h2, h3⟩ := h.some k
  exact ⟨x.toNat, by omega, by omega, left_ready.1 h2, fun q hq hqr => h3 q hq (left_ready.2 hqr)⟩
/-- The counts behind a put one, told so far. -/
theorem dec_all (hG : RG G) (hP : Parted G part parts) {os : List Nat} (ho : Ord G part parts os) {q : Nat} (hq : Next G part parts os q) (p : Nat) : decO (upd (leftO part os (edges G)) q (-1)) (fromO part (edges G) q) p = leftO part (os ++ [q]) (edges G) p := by
 rw [leftO_put hG hP ho.shut hq.2.1.1 p, decO_count _ (fun x hx => ((from_small hG hP q).2 x hx).1)]
 unfold upd; rfl
theorem decO_snoc (f : Nat → Int) (l : List Int) (x : Int) : decO f (l ++ [x]) = upd (decO f l) x.toNat (decO f l x.toNat - 1) := by
 induction l generalizing f with
 | nil => rfl
 | cons y l ih => exact ih _
theorem decO_take {f : Nat → Int} {l : List Int} {j : Nat} (hj : j < l.length) : decO f (l.take (j + 1)) = upd (decO f (l.take j)) l[j].toNat (decO f (l.take j) l[j].toNat - 1) := by rw [List.take_succ_eq_append_getElem hj, decO_snoc]
theorem decO_small (f : Nat → Int) (l : List Int) (hl : ∀ x ∈ l, 0 ≤ x) (p : Nat) (hf : -1 ≤ f p ∧ f p ≤ 4096) (hn : l.length ≤ 4096) : -5000 ≤ decO f l p ∧ decO f l p ≤ 4096 := by
 rw [decO_count l hl]
 have : l.count (p : Int) ≤ l.length := List.count_le_length
 omega
/-! Putting each number's place. -/
/-- Rows ahead, and so many of the next, have their place. -/
def mixO (L : List (List Nat)) (old : Nat → Int) (p k : Nat) : Nat → Int := fun a => if (0 ≤ placeR L a ∧ placeR L a < p) ∨ (placeR L a = p ∧ a ∈ (L.getD p []).take k) then placeR L a else old a
theorem mixO_zero (L : List (List Nat)) (old : Nat → Int) : mixO L old 0 0 = old := by
 funext a; unfold mixO; rw [if_neg]; simp
theorem told_place {L : List (List Nat)} (h : Told G L) {p a : Nat} (hp : p < L.length) (ha : a ∈ L.getD p []) : placeR L a = (p : Int) ∧ a < G.length := by
 rw [show L.getD p [] = L[p] by simp [hp], h.rows p hp] at ha
 obtain ⟨h1, h2⟩ := List.mem_filter.1 ha
 exact ⟨by simpa using h2, List.mem_range.1 h1⟩
theorem mixO_succ {L : List (List Nat)} (h : Told G L) (old : Nat → Int) {p k : Nat} (hp : p < L.length) (hk : k < (L.getD p []).length) : mixO L old p (k + 1) = upd (mixO L old p k) (L.getD p [])[k] (p : Int) := by
 have hx := told_place h hp (List.getElem_mem hk)
 funext a
 by_cases e : a = (L.getD p [])[k]
 ·rw [e, upd_same]
  unfold mixO
  rw [if_pos (.inr ⟨hx.1, by rw [List.take_succ_eq_append_getElem hk]; exact List.mem_append_right _ (List.mem_cons_self ..)⟩), hx.1]
 ·rw [upd_other _ _ e]
  unfold mixO
  rw [List.take_succ_eq_append_getElem hk]
  simp only [List.mem_append, List.mem_singleton, e, or_false]
theorem mixO_row {L : List (List Nat)} (h : Told G L) (old : Nat → Int) {p : Nat} (hp : p < L.length) : mixO L old (p + 1) 0 = mixO L old p (L.getD p []).length := by
 funext a
 unfold mixO
 rw [List.take_length, List.take_zero]
 by_cases e : placeR L a = (p : Int)
 ·have ha : a ∈ L.getD p [] := by
   have hal : a < G.length := by
    rcases Nat.lt_or_ge a G.length with k | k
    ·exact k
    ·have := h.none a k; omega
   rw [show L.getD p [] = L[p] by simp [hp], h.rows p hp]
   simp [hal, e]
  rw [if_pos (.inl (by omega)), if_pos (.inr ⟨e, ha⟩)]
 ·by_cases k : 0 ≤ placeR L a ∧ placeR L a < p
  ·rw [if_pos (.inl (by omega)), if_pos (.inl k)]
  ·rw [if_neg (by simp; omega), if_neg (by simp [e]; omega)]
theorem mixO_all {L : List (List Nat)} (h : Told G L) (old : Nat → Int) {a : Nat} (ha : a < G.length) : mixO L old L.length 0 a = placeR L a := by
 unfold mixO
 have := h.place a ha
 rw [if_pos (.inl (by omega))]
end
section
variable {G : List (List Nat)}
/-! Rows of numbers as a graph. -/
/-- Is a row right: its numbers in range, rising? -/
def okRow (n : Nat) : List Int → Bool
 | [] => true
 | [b] => decide (0 ≤ b) && decide (b < n)
 | b :: c :: l => decide (0 ≤ b) && decide (b < n) && decide (b < c) && okRow n (c :: l)
def rightI (x : List (List Int)) : Bool := decide (x.length ≤ 64) && x.all (okRow x.length)
def toG (x : List (List Int)) : List (List Nat) := x.map (fun l => l.map Int.toNat)
theorem okRow_iff {n : Nat} : ∀ {l : List Int}, okRow n l = true ↔ (∀ b ∈ l, 0 ≤ b ∧ b < n) ∧ l.Pairwise (· < ·)
 | [] => by simp [okRow]
 | [b] => by simp [okRow]
 | b :: c :: l => by
  have ih := okRow_iff (n := n) (l := c :: l)
  show (decide (0 ≤ b) && decide (b < n) && decide (b < c) && okRow n (c :: l)) = true ↔ _
  rw [Bool.and_eq_true, Bool.and_eq_true, Bool.and_eq_true, ih, decide_eq_true_eq, decide_eq_true_eq, decide_eq_true_eq]
  constructor
  ·rintro ⟨⟨⟨h1, h2⟩, h3⟩, h4, h5⟩
   refine ⟨fun x hx => ?_, List.pairwise_cons.2 ⟨fun x hx => ?_, h5⟩⟩
   ·rcases List.mem_cons.1 hx with e | k
    ·subst e; exact ⟨h1, h2⟩
    ·exact h4 x k
   ·rcases List.mem_cons.1 hx with e | k
    ·subst e; exact h3
    ·have := (List.pairwise_cons.1 h5).1 x k; omega
  ·rintro ⟨h1, h2⟩
   obtain ⟨h3, h4⟩ := List.pairwise_cons.1 h2
   exact ⟨⟨h1 b (List.mem_cons_self ..), h3 c (List.mem_cons_self ..)⟩, fun x hx => h1 x (List.mem_cons_of_mem _ hx), h4⟩
theorem right_iff {x : List (List Int)} : rightI x = true ↔ x.length ≤ 64 ∧ ∀ l ∈ x, (∀ b ∈ l, 0 ≤ b ∧ b < x.length) ∧ l.Pairwise (· < ·) := by
 unfold rightI
 rw [Bool.and_eq_true, decide_eq_true_eq, List.all_eq_true]
 simp only [okRow_iff]
theorem toG_len (x : List (List Int)) : (toG x).length = x.length := by unfold toG; rw [List.length_map]
theorem toG_row {x : List (List Int)} {i : Nat} (hi : i < x.length) : row (toG x) i = x[i].map Int.toNat := by unfold row toG; simp [hi]
theorem right_RG {x : List (List Int)} (h : rightI x = true) : RG (toG x) := by
 obtain ⟨h1, h2⟩ := right_iff.1 h
 refine ⟨fun a b hb => ?_, fun a => ?_, by rw [toG_len]; exact h1⟩
 ·have ha := row_lt hb
  rw [toG_len] at ha ⊢
  rw [toG_row ha] at hb
  obtain ⟨z, hz, rfl⟩ := List.mem_map.1 hb
  have := (h2 _ (List.getElem_mem ha)).1 z hz
  omega
 ·by_cases ha : a < x.length
  ·rw [toG_row ha, List.pairwise_map]
   have h3 := h2 _ (List.getElem_mem ha)
   refine h3.2.imp_of_mem (fun {y z} hy hz k => ?_)
   have := h3.1 y hy; have := h3.1 z hz; omega
  ·have : row (toG x) a = [] := by unfold row; rw [List.getD_eq_getElem?_getD, List.getElem?_eq_none (by rw [toG_len]; omega)]; rfl
   rw [this]; exact .nil
theorem ints_toG {x : List (List Int)} (h : rightI x = true) : intsG (toG x) = x := by
 obtain ⟨_, h2⟩ := right_iff.1 h
 unfold intsG toG
 rw [List.map_map]
 have : x.map ((fun l => l.map (fun (x : Nat) => (x : Int))) ∘ fun l => l.map Int.toNat) = x.map id := by
  refine List.map_congr_left (fun l hl => ?_)
  show (l.map Int.toNat).map (fun (x : Nat) => (x : Int)) = l
  rw [List.map_map]
  have : l.map ((fun (x : Nat) => (x : Int)) ∘ Int.toNat) = l.map id := List.map_congr_left (fun z hz => by
   have := (h2 l hl).1 z hz
   show ((z.toNat : Nat) : Int) = z
   omega)
  rw [this, List.map_id]
 rw [this, List.map_id]
theorem intsG_len (G : List (List Nat)) : (intsG G).length = G.length := by unfold intsG; rw [List.length_map]
def numI (x : List (List Int)) (a : Int) : Bool := decide (0 ≤ a) && decide (a < x.length)
def partsI (x : List (List Int)) : List (List Int) := if rightI x then intsG (partsR (toG x)) else []
def partI (x : List (List Int)) (a : Int) : Int := if rightI x && numI x a then placeR (partsR (toG x)) a.toNat else -1
def ringI (x : List (List Int)) (a : Int) : Bool := rightI x && (numI x a && ringR (toG x) a.toNat)
/-- The place of a number, by rows of numbers. -/
def placeZ : List (List Int) → Int → Int
 | [], _ => -1
 | l :: L, a => if l.contains a then 0 else if placeZ L a < 0 then -1 else placeZ L a + 1
theorem placeZ_ints (L : List (List Nat)) (a : Nat) : placeZ (intsG L) (a : Int) = placeR L a := by
 induction L with
 | nil => rfl
 | cons l L ih =>
  show (if (l.map (fun (x : Nat) => (x : Int))).contains (a : Int) then 0 else if placeZ (intsG L) a < 0 then -1 else placeZ (intsG L) a + 1) = _
  rw [ih]
  have : (l.map (fun (x : Nat) => (x : Int))).contains (a : Int) = l.contains a := by
   rw [Bool.eq_iff_iff, List.contains_iff_mem, List.contains_iff_mem, List.mem_map]
   constructor
   ·rintro ⟨b, hb, e⟩
    obtain rfl : b = a := by omega
    exact hb
   ·intro h; exact ⟨a, h, rfl⟩
  rw [this]; rfl
theorem placeZ_none {L : List (List Int)} {a : Int} (h : ∀ l ∈ L, a ∉ l) : placeZ L a = -1 := by
 induction L with
 | nil => rfl
 | cons l L ih =>
  unfold placeZ
  rw [ih (fun m hm => h m (List.mem_cons_of_mem _ hm))]
  simp [h l (List.mem_cons_self ..)]
/-- Where a number's part stands, by the rows that are told. -/
theorem placeZ_parts (x : List (List Int)) (a : Int) : placeZ (partsI x) a = partI x a := by
 unfold partsI partI
 cases h : rightI x
 ·rfl
 ·simp only [if_true, Bool.true_and]
  have hT := told (right_RG h)
  by_cases hn : 0 ≤ a ∧ a < x.length
  ·have e : numI x a = true := by unfold numI; simp [hn]
   rw [e, if_pos rfl]
   obtain ⟨k, rfl⟩ : ∃ k : Nat, a = (k : Int) := ⟨a.toNat, by omega⟩
   rw [placeZ_ints]; rfl
  ·have e : numI x a = false := by unfold numI; simp; omega
   rw [e]
   simp only [Bool.false_eq_true, if_false]
   refine placeZ_none (fun l hl hal => ?_)
   obtain ⟨m, hm, rfl⟩ := List.mem_map.1 hl
   obtain ⟨p, hp, rfl⟩ := List.getElem_of_mem hm
   rw [hT.rows p hp] at hal
   obtain ⟨z, hz, rfl⟩ := List.mem_map.1 hal
   have := List.mem_range.1 (List.mem_filter.1 hz).1
   rw [toG_len] at this
   omega
end
section
variable {G : List (List Nat)}
/-! From which place on a part could stand. -/
theorem place_small (hG : RG G) (a : Nat) : -1 ≤ placeR (partsR G) a ∧ placeR (partsR G) a < 64 ∧ ((partsR G).length ≤ 64) := by
 have hT := told hG
 have hlen : (partsR G).length ≤ G.length := by
  obtain ⟨os, h, hl⟩ := ord_full hG (search_parted hG).1
  have h3 := told_of hG (search_parted hG).1 h hl
  have h6 : ∀ k, (roundsR G k).2.length ≤ k := by
   intro k
   induction k with
   | zero => exact Nat.le_refl _
   | succ k ih =>
    show (roundR G (roundsR G k)).2.length ≤ _
    unfold roundR
    split
    ·omega
    ·rw [List.length_append, List.length_singleton]; omega
  exact h6 _
 have := hG.few
 rcases Nat.lt_or_ge a G.length with k | k
 ·have := hT.place a k; omega
 ·have := hT.none a k; omega
end
section
variable {G : List (List Nat)}
/-! A number more, by rows of numbers. -/
theorem numI_nat {x : List (List Int)} {a : Nat} (h : a < x.length) : numI x (a : Int) = true := by unfold numI; simp [h]
/-! Turned round, by rows of numbers. -/
end
section
theorem okRow_at {n : Nat} : ∀ {l : List Int}, okRow n l = true ↔ ∀ j, j < l.length → 0 ≤ l.getD j 0 ∧ l.getD j 0 < n ∧ (0 < j → l.getD (j - 1) 0 < l.getD j 0)
 | [] => by simp [okRow]
 | [b] => by
  simp [okRow]
 | b :: c :: l => by
  have ih := okRow_at (n := n) (l := c :: l)
  show (decide (0 ≤ b) && decide (b < n) && decide (b < c) && okRow n (c :: l)) = true ↔ _
  rw [Bool.and_eq_true, Bool.and_eq_true, Bool.and_eq_true, ih, decide_eq_true_eq, decide_eq_true_eq, decide_eq_true_eq]
  constructor
  ·rintro ⟨⟨⟨h1, h2⟩, h3⟩, h4⟩ j hj
   cases j with
   | zero => exact ⟨h1, h2, fun h => absurd h (Nat.lt_irrefl _)⟩
   | succ j =>
    have := h4 j (by simpa using hj)
    refine ⟨this.1, this.2.1, fun _ => ?_⟩
    cases j with
    | zero => exact h3
    | succ j => exact this.2.2 (Nat.succ_pos _)
  ·intro h
   have h0 := h 0 (by simp)
   have h1 := h 1 (by simp)
   refine ⟨⟨⟨h0.1, h0.2.1⟩, h1.2.2 (by decide)⟩, fun j hj => ?_⟩
   have := h (j + 1) (by simpa using hj)
   refine ⟨this.1, this.2.1, fun hj0 => ?_⟩
   have h3 := this.2.2 (Nat.succ_pos _)
   obtain ⟨i, rfl⟩ : ∃ i, j = i + 1 := ⟨j - 1, by omega⟩
   exact h3
theorem right_of {x : List (List Int)} {n : Nat} (hn : x.length = n) (h1 : n ≤ 64) (h2 : ∀ (i : Nat) (l : List Int), x[i]? = some l → okRow n l = true) : rightI x = true := by
 unfold rightI
 rw [Bool.and_eq_true, decide_eq_true_eq, List.all_eq_true, hn]
 refine ⟨h1, fun l hl => ?_⟩
 obtain ⟨i, hi, rfl⟩ := List.getElem_of_mem hl
 exact h2 i _ (List.getElem?_eq_getElem hi)
theorem right_not {x : List (List Int)} {i : Nat} (h : i < x.length) {j : Nat} (hj : j < x[i].length) (hb : ¬ (0 ≤ x[i].getD j 0 ∧ x[i].getD j 0 < x.length ∧ (0 < j → x[i].getD (j - 1) 0 < x[i].getD j 0))) : rightI x = false := by
 cases e : rightI x
 ·rfl
 ·unfold rightI at e
  rw [Bool.and_eq_true, List.all_eq_true] at e
  exact absurd (okRow_at.1 (e.2 _ (List.getElem_mem h)) j hj) hb
theorem right_great {x : List (List Int)} (h : 64 < x.length) : rightI x = false := by
 unfold rightI; rw [decide_eq_false (by omega)]; rfl
end
end Go.Proofs.YtlklmpjakeedcaaGreatDoor.Cp

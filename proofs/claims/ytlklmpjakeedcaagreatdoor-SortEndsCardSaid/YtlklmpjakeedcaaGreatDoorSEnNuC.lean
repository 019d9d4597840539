/-
 The rounds: the iterator hands out, round by round, the rules that come in; the ranks are written by who goes round.
 Conditions: the grammar is right and reads as data.
-/
import Derived.Test.YtlklmpjakeedcaaGreatDoorSEnNuB
import Derived.Test.YtlklmpjakeedcaaGreatDoorSEnGFresh
set_option linter.unusedVariables false
set_option linter.unusedSimpArgs false
namespace Go.Proofs.YtlklmpjakeedcaaGreatDoor
open Go.RowKit Go.MapKept Go.Shelf

/-! ### What is said -/
def ranksL (g : Gr) (j : Nat) : List Int := (List.range g.rules.length).map fun i => (rk g j i : Int)
theorem ranksL_len (g : Gr) (j : Nat) : (ranksL g j).length = g.rules.length := by simp [ranksL]
theorem ranksL_at (g : Gr) (j : Nat) {i : Nat} (hi : i < g.rules.length) : (ranksL g j)[i]? = some (rk g j i : Int) := by simp [ranksL, hi]
theorem callsL_ranks (g : Gr) (j : Nat) : callsL (ranksL g j) = callsR g j := by
 funext q
 simp only [callsL, callsR]
 by_cases hq : q.toNat < g.rules.length
 ·rw [ranksL_at g j hq]
  simp
 ·rw [List.getElem?_eq_none (by rw [ranksL_len]; omega), rk_out g j (by omega)]
  simp
/-- Whether a rule comes in behind so many rounds. -/
def enters (g : Gr) (j i : Nat) : Bool := decide (rk g j i = 0) && (match g.rules[i]? with | none => false | some r => mayR g j r.body)
def newL (g : Gr) (j k : Nat) : List Int := ((List.range k).filter (enters g j)).map fun (i : Nat) => (i : Int)
theorem newL_succ (g : Gr) (j k : Nat) : newL g j (k + 1) = newL g j k ++ if enters g j k then [(k : Int)] else [] := by
 simp only [newL, List.range_succ, List.filter_append, List.map_append]
 congr 1
 by_cases h : enters g j k <;> simp [h]
theorem newL_le (g : Gr) (j k : Nat) : (newL g j k).length ≤ k := by
 have := List.length_filter_le (enters g j) (List.range k)
 simpa [newL] using this
theorem still_new {g : Gr} {j : Nat} (h : newL g j g.rules.length = []) : Still g j := by
 intro i hi h0
 cases hm : mayR g j g.rules[i].body with
 | false => rfl
 | true =>
  exfalso
  have h1 : (i : Int) ∈ newL g j g.rules.length := by
   simp only [newL, List.mem_map, List.mem_filter, List.mem_range]
   exact ⟨i, ⟨hi, by simp [enters, h0, hi, hm]⟩, rfl⟩
  rw [h] at h1
  cases h1
theorem new_still {g : Gr} {j : Nat} (h : Still g j) : newL g j g.rules.length = [] := by
 simp only [newL, List.map_eq_nil_iff, List.filter_eq_nil_iff, List.mem_range]
 intro i hi
 simp only [enters, List.getElem?_eq_getElem hi, Bool.and_eq_true, decide_eq_true_eq]
 rintro ⟨h0, hm⟩
 rw [h i hi h0] at hm
 cases hm
theorem right_body {g : Gr} (h : rightB g = true) {k : Nat} (hk : k < g.rules.length) : ∃ q : Nat, g.rules[k].body = (q : Int) ∧ q < g.nodes.length := by
 obtain ⟨t, ht, htab, _⟩ := right_tab h
 have h0 := whole_chain ht
 have key : ∀ k, k ≤ g.rules.length → ∃ x, chainT g t (g.rules.drop k) k x = some g.nodes.length := by
  intro k
  induction k with
  | zero => intro _; exact ⟨0, by simpa using h0⟩
  | succ k ih =>
   intro hk
   obtain ⟨x, hx⟩ := ih (by omega)
   obtain ⟨_, _, z, _, _, _, h2⟩ := chain_next (by omega) hx
   exact ⟨_, h2⟩
 obtain ⟨x, hx⟩ := key k (by omega)
 obtain ⟨_, hb, z, hh, hz, _, _⟩ := chain_next hk hx
 exact ⟨x, hb, (chain_le htab hz).1⟩
theorem right_calls {g : Gr} (h : rightB g = true) : ∀ x ∈ g.nodes, x.k = 5 → 0 ≤ x.r ∧ x.r < g.rules.length := by
 intro x hx hk
 obtain ⟨n, hn, rfl⟩ := List.mem_iff_getElem.1 hx
 have h1 := right_node h hn
 simp only [nodeB, nodeN, hk] at h1
 simp at h1
 omega

/-- The ranks while a round's rules are written. -/
def markL (g : Gr) (j k : Nat) : List Int := (List.range g.rules.length).map fun (i : Nat) => if (i : Int) ∈ (newL g j g.rules.length).take k then ((j + 1 : Nat) : Int) else (rk g j i : Int)
theorem markL_len (g : Gr) (j k : Nat) : (markL g j k).length = g.rules.length := by simp [markL]
theorem markL_zero (g : Gr) (j : Nat) : markL g j 0 = ranksL g j := by simp [markL, ranksL]
theorem newL_at {g : Gr} {j k : Nat} {z : Int} (h : (newL g j g.rules.length)[k]? = some z) : ∃ q : Nat, z = q ∧ q < g.rules.length := by
 have h1 := List.mem_of_getElem? h
 simp only [newL, List.mem_map, List.mem_filter, List.mem_range] at h1
 obtain ⟨q, ⟨h2, _⟩, rfl⟩ := h1
 exact ⟨q, rfl, h2⟩
theorem markL_succ {g : Gr} {j k q : Nat} (h : (newL g j g.rules.length)[k]? = some (q : Int)) : markL g j (k + 1) = (markL g j k).set q ((j + 1 : Nat) : Int) := by
 apply List.ext_getElem
 ·simp [markL]
 ·intro i h1 h2
  rw [List.getElem_set]
  simp only [markL, List.getElem_map, List.getElem_range, List.take_add_one, h, Option.toList_some, List.mem_append, List.mem_singleton]
  by_cases hq : q = i
  ·subst hq
   rw [if_pos (.inr rfl), if_pos rfl]
  ·rw [if_neg hq]
   have : ¬ ((i : Int) = (q : Int)) := by omega
   simp [this]
theorem markL_end (g : Gr) (j : Nat) : markL g j (newL g j g.rules.length).length = ranksL g (j + 1) := by
 apply List.ext_getElem
 ·simp [markL, ranksL]
 ·intro i h1 h2
  have hi : i < g.rules.length := by simpa [markL] using h1
  simp only [markL, ranksL, List.getElem_map, List.getElem_range, List.take_length]
  rw [rk_step g j hi]
  have hmem : ((i : Int) ∈ newL g j g.rules.length) ↔ (rk g j i = 0 ∧ mayR g j g.rules[i].body = true) := by
   simp only [newL, List.mem_map, List.mem_filter, List.mem_range]
   constructor
   ·rintro ⟨q, ⟨h3, h4⟩, h5⟩
    obtain rfl : q = i := by omega
    simpa [enters, List.getElem?_eq_getElem hi] using h4
   ·rintro ⟨h3, h4⟩
    exact ⟨i, ⟨hi, by simp [enters, List.getElem?_eq_getElem hi, h3, h4]⟩, rfl⟩
  by_cases hm : (i : Int) ∈ newL g j g.rules.length
  ·rw [if_pos hm, if_pos (hmem.1 hm)]
  ·rw [if_neg hm, if_neg (fun h => hm (hmem.2 h))]

/-! ### The walk -/
structure RoundsI (Bl B R m : Nat) (a1 : Option Addr) (n1 c1 : Nat) (a2 : Option Addr) (n2 c2 : Nat) (g : Gr) (j : Nat) (W : World) : Prop where
 p : W.heap[Bl]? = some (.cells #[.pointer (some ⟨B, 0, none⟩)] 162 (0, 0))
 work : WorkAt W B R m a1 n1 c1 a2 n2 c2 g (ranksL g j)
theorem RoundsI.chg {W W' : World} {Bl B R m : Nat} {a1 : Option Addr} {n1 c1 : Nat} {a2 : Option Addr} {n2 c2 : Nat} {g : Gr} {j : Nat} (h : RoundsI Bl B R m a1 n1 c1 a2 n2 c2 g j W) (hc : Chg [] W W') : RoundsI Bl B R m a1 n1 c1 a2 n2 c2 g j W' := ⟨hc.heap h.p (by simp), h.work.chg hc⟩
/-- What is handed out: the round, the rules. -/
abbrev Rd := Nat × Option Addr × Nat × List Int
def encRd (x : Rd) : Array Value := #[.int .i64 x.1, .slice x.2.1 x.2.2.2.length x.2.2.1]
def RdX (n₀ : Nat) (g : Gr) (pre : List Rd) (x : Rd) (W : World) : Prop := (x.1 = pre.length + 1 ∧ x.2.2.2 = newL g pre.length g.rules.length ∧ ¬ Still g pre.length) ∧ FreshInts n₀ W x.2.1 x.2.2.1 x.2.2.2
theorem RdX.stays (B n₀ : Nat) (g : Gr) (pre : List Rd) (x : Rd) : Stays B (RdX n₀ g pre x) := (Stays.pure _).and (Stays.row B _ _ _ _ _ _)

section
attribute [local go_sem] Oper.semAt_some
set_option maxRecDepth 100000 in
set_option maxHeartbeats 4000000 in
theorem Rounds_gives (w : World) (Bl B R m : Nat) (a1 : Option Addr) (n1 c1 : Nat) (a2 : Option Addr) (n2 c2 : Nat) (g : Gr) (hr : rightB g = true) (hI : RoundsI Bl B R m a1 n1 c1 a2 n2 c2 g 0 w) :
  Gives Tryz.prog 180 #[.pointer (some ⟨Bl, 0, none⟩)] encRd (RdX w.heap.size g) (fun pre x A A' => A.heap.size ≤ A'.heap.size ∧ (RoundsI Bl B R m a1 n1 c1 a2 n2 c2 g pre.length A → RoundsI Bl B R m a1 n1 c1 a2 n2 c2 g (pre.length + 1) A')) (fun xs => Still g xs.length) (fun _ => True) w := by
 intro mm l J Jx W hW hJ hJx hY h0
 obtain ⟨i0, hin, hz0, hz1, hz2⟩ := info_parts Tryz.infoInt
 have hIW := hI.chg hW
 have hn32 : n1 ≤ 32 ∧ n1 = g.rules.length := ⟨by have := (right_sizes hr).2.1; have := hI.work.gram.e1; omega, hI.work.gram.e1⟩
 have hsW := hW.size
 have H := Lib.hid (And.intro hr (And.intro hIW (And.intro hn32.2 hsW)))
 obtain ⟨hn32, hng⟩ := hn32
 clear hng
 show CallsIn Fence.wide (mm + 1) Tryz.prog 180 #[.func (.yield l) #[] #[], .pointer (some ⟨Bl, 0, none⟩)] W _
 clear hr hI hIW hW hsW
 refine callsIn_of_wp Tryz.func180 rfl trivial ?_ rfl
 simp only [Tryz.ntmps180, List.size_toArray, List.length_cons, List.length_nil, Nat.reduceAdd, Nat.reduceSub, Array.replicate_succ, Array.replicate_zero, List.push_toArray, List.append_toArray, List.nil_append, List.cons_append]
 gi_wp2_with fail
 gi_loopg [3] (n1 + 1) (fun d iv wr => ∃ (j : Nat) (pre : List Rd), d = n1 + 1 - j ∧ j ≤ n1 ∧ iv = .int .i64 ((j : Int) + 1) ∧ Hid (pre.length = j ∧ J pre wr ∧ RoundsI Bl B R m a1 n1 c1 a2 n2 c2 g j wr ∧ w.heap.size ≤ wr.heap.size))
 case atStart => exact ⟨0, [], rfl, Nat.zero_le _, rfl, Lib.hid ⟨rfl, h0, H.out.2.1, H.out.2.2.2⟩⟩
 case round =>
  obtain ⟨j, pre, rfl, hj, rfl, HI⟩ := hrel
  obtain ⟨wq, rfl⟩ : ∃ wq, wq = wr := ⟨_, rfl⟩
  have p0 := cells1 HI.out.2.2.1.p
  have y0 := cell_of_cells HI.out.2.2.1.work.box 0
  simp at y0
  gi_wp2_with fail
  gi_loopg [15, 4] n1 (fun d iv ov wr => ∃ (k : Nat) (a' : Option Addr) (c' q : Nat), d = n1 - k ∧ k ≤ n1 ∧ iv = .int .i64 k ∧ ov = .slice a' q c' ∧ Hid (Chg [] wq wr ∧ FreshInts wq.heap.size wr a' c' (newL g j k) ∧ q = (newL g j k).length))
  case atStart => exact ⟨0, none, 0, 0, rfl, Nat.zero_le _, rfl, rfl, Lib.hid ⟨Chg.refl _ _, World.ownsRow_nil _ _ _ _, rfl⟩⟩
  case round =>
   obtain ⟨k, a', c', q, rfl, hk, rfl, rfl, hin2⟩ := hrel
   obtain ⟨wr, rfl⟩ : ∃ wz, wz = wr := ⟨_, rfl⟩
   have hIr := HI.out.2.2.1.chg hin2.out.1
   by_cases hlt : k < n1
   ·have hkr : k < g.rules.length := by have := H.out.2.2.1; omega
    obtain ⟨b1, o1, rfl, r0, r1⟩ := hIr.work.gram.rules k hkr
    obtain ⟨nm, hnm⟩ : ∃ nm, nm = g.rules[k].name := ⟨_, rfl⟩
    obtain ⟨bq, hbq, hbl⟩ := right_body H.out.1 hkr
    rw [← hnm] at r0
    rw [hbq] at r1
    have hbr := World.block_lt_of_cell? _ _ r0
    simp only at hbr
    have hca := (Chg.refl [] wr).alloc (.cells #[.string nm, .int .i64 bq] 53)
    have hIa := hIr.chg hca
    have p1 := cells1 hIa.p
    have y2 := cell_of_cells hIa.work.box 2
    simp at y2
    obtain ⟨z, hz⟩ : ∃ z, z = rk g j k := ⟨_, rfl⟩
    have hrk := row_cell hIa.work.row (i := k) (x := (z : Int)) (by rw [ranksL_at g j hkr, hz])
    obtain ⟨x0, x1⟩ := cells2 (heap_alloc_same wr (.cells #[.string nm, .int .i64 bq] 53))
    have hcall := may_any B R m (some ⟨b1, o1, none⟩) n1 c1 a2 n2 c2 g (ranksL g j) (falls_right H.out.1) (by rw [H.out.2.2.1]; exact right_calls H.out.1) g.nodes.length bq (by omega) hbl _ hIa.work
    have hm : enters g j k = (decide (z = 0) && mayN g.nodes (callsL (ranksL g j)) bq) := by
     simp only [enters, List.getElem?_eq_getElem hkr, hbq, callsL_ranks, mayR, hz]
    obtain ⟨r, hr⟩ : ∃ r, r = mayN g.nodes (callsL (ranksL g j)) bq := ⟨_, rfl⟩
    rw [← hr] at hcall hm
    have HR := Lib.hid (And.intro hIr (And.intro hm (And.intro hcall hca)))
    clear hIr hIa hm hcall hca hr hbq hbl hz hnm
    by_cases hz0 : z = 0
    ·subst hz0
     gi_wp2_with fail
     refine ⟨trivial, (callsIn_wide.2 HR.out.2.2.1).mono ?_⟩
     rintro e w3 ⟨rfl, hc3⟩
     have H3 := Lib.hid (HR.out.2.2.2.tr hc3)
     clear hc3 p1 y2 hrk x0 x1 r0 r1
     cases r with
     | true =>
      have hrow3 := H3.out.row hin2.out.2.1 (fun _ _ => by simp)
      have h1' : ∀ u ∈ [Value.int .i64 (k : Int)], u.oneCell' = true := by simp [Value.oneCell']
      have hq := newL_le g j k
      have hqe := hin2.out.2.2
      have h2' : q + 1 ≤ maxLen ∧ (q + 1) * 8 ≤ 140737488355328 := by simp only [maxLen]; omega
      have hnew := cells_at (w := w3.alloc (.cells #[.int .i64 k] 3)) (heap_alloc_same _ _)
      have hsz := (hin2.out.1.tr H3.out).size
      rw [← hqe] at hrow3
      have H4 := Lib.hid (And.intro (World.ownsRow.alloc hrow3 (.cells #[.int .i64 k] 3)) (And.intro h1' (And.intro h2' (And.intro hnew (And.intro hsz ((hin2.out.1.tr H3.out).alloc (.cells #[.int .i64 k] 3)))))))
      clear hrow3 h1' h2' hnew hsz hq hqe
      gi_wp2_with (gi_at_builtin; refine wpListIn_append_own _ rfl _ _ 34 rfl wq.heap.size 3 i0 _ 1 8 Tryz.underlying34 hin hz0 hz1 hz2 rfl (by decide) (.slice a' q c') q ((newL g j k).map (Value.int .i64)) rfl H4.out.1 ⟨w3.heap.size, 0, none⟩ 1 1 [.int .i64 k] rfl rfl H4.out.2.2.2.1 H4.out.2.1 H4.out.2.2.1.1 H4.out.2.2.1.2 (by have := H4.out.2.2.2.2.1; rw [World.size_alloc]; omega) ?_; intro v' w5 hr5 hg5 hn5; obtain ⟨a5, c5, rfl⟩ := ownsRow_slice hr5; have HW := Lib.hid (And.intro hr5 hg5); clear hr5 hg5 hn5)
      gi_roundg (n1 - (k + 1))
      case measure => omega
      case rel =>
       have hen : enters g j k = true := by rw [HR.out.2.1]; rfl
       have hnl : newL g j (k + 1) = newL g j k ++ [(k : Int)] := by rw [newL_succ, hen]; rfl
       refine ⟨k + 1, a5, c5, q + 1, rfl, by omega, by go_num, rfl, Lib.hid ⟨?_, ?_, ?_⟩⟩
       ·refine H4.out.2.2.2.2.2.grown HW.out.2 (fun i hi => .inr ?_)
        have := hin2.out.2.1
        rw [FreshInts, ← hin2.out.2.2] at this
        exact (row_beyond this hi).1
       ·rw [FreshInts, hnl, List.length_append, ← hin2.out.2.2, List.map_append]
        exact HW.out.1
       ·rw [hnl, List.length_append, ← hin2.out.2.2]; rfl
     | false =>
      gi_wp2_with fail
      gi_roundg (n1 - (k + 1))
      case measure => omega
      case rel =>
       have hen : enters g j k = false := by rw [HR.out.2.1]; rfl
       have hnl : newL g j (k + 1) = newL g j k := by rw [newL_succ, hen]; simp
       exact ⟨k + 1, a', c', q, rfl, by omega, by go_num, rfl, Lib.hid ⟨hin2.out.1.tr H3.out, by rw [hnl]; exact H3.out.row hin2.out.2.1 (fun _ _ => by simp), by rw [hnl]; exact hin2.out.2.2⟩⟩
    ·have hzb : ((z : Int) == 0) = false := by simp [hz0]
     gi_wp2_with fail
     refine ⟨trivial, ?_⟩
     gi_wp2_with fail
     gi_roundg (n1 - (k + 1))
     case measure => omega
     case rel =>
      have hen : enters g j k = false := by rw [HR.out.2.1, decide_eq_false hz0]; rfl
      have hnl : newL g j (k + 1) = newL g j k := by rw [newL_succ, hen]; simp
      exact ⟨k + 1, a', c', q, rfl, by omega, by go_num, rfl, Lib.hid ⟨hin2.out.1.tr HR.out.2.2.2, by rw [hnl]; exact HR.out.2.2.2.row hin2.out.2.1 (fun _ _ => by simp), by rw [hnl]; exact hin2.out.2.2⟩⟩
   ·obtain rfl : k = n1 := by omega
    have hng := H.out.2.2.1
    by_cases hq0 : q = 0
    ·subst hq0
     have hst : Still g j := still_new (by rw [← hng]; exact List.eq_nil_of_length_eq_zero hin2.out.2.2.symm)
     have HS := Lib.hid hst
     clear hng hst
     gi_wp2_with fail
     refine ⟨(by intro f h; cases h), ?_⟩
     gi_wp2_with fail
     refine bodyPost_ret (results_none rfl _ _ _) rfl ?_
     exact ⟨⟨_, rfl⟩, .inl ⟨pre, by rw [HI.out.1]; exact HS.out, hJ _ _ _ HI.out.2.1 hin2.out.1⟩⟩
    ·have hst : ¬ Still g j := fun hst => by
      have := new_still hst
      rw [← hng] at this
      have h2 := hin2.out.2.2
      rw [this] at h2
      exact hq0 h2
     obtain ⟨fn, tmps, assign, body, hy, hR⟩ := hY pre (j + 1, a', c', newL g j k) wr (hJ _ _ _ HI.out.2.1 hin2.out.1) ⟨⟨by rw [HI.out.1], by rw [HI.out.1, ← hng], by rw [HI.out.1]; exact hst⟩, row_base hin2.out.2.1 HI.out.2.2.2⟩
     simp only [encRd] at hy
     rw [← hin2.out.2.2, show ((j + 1 : Nat) : Int) = (j : Int) + 1 by omega] at hy
     have hjl := round_lt hst
     have HS := Lib.hid (And.intro hst (And.intro hng hjl))
     have hq1 : ((q : Int) == 0) = false := by simp [hq0]
     clear hng hst hjl
     gi_wp2_with fail
     first
     | refine ⟨fun h => by simp [Fence.wide] at h, hR.mono ?_⟩
     | refine hR.mono ?_
     rintro e w4 (⟨rfl, hJ4, hk4, hk5⟩ | ⟨rfl, hJx4⟩)
     ·gi_wp2_with fail
      gi_roundg (k + 1 - (j + 1))
      case measure => have := HS.out.2.2; have := HS.out.2.1; omega
      case rel =>
       refine ⟨j + 1, pre ++ [(j + 1, a', c', newL g j k)], rfl, by have := HS.out.2.2; have := HS.out.2.1; omega, by go_num, Lib.hid ⟨by simp [HI.out.1], hJ4, ?_, by have := HI.out.2.2.2; have := hin2.out.1.size; omega⟩⟩
       have h1 := hk5 (by rw [HI.out.1]; exact HI.out.2.2.1.chg hin2.out.1)
       rw [HI.out.1] at h1
       exact h1
     ·gi_wp2_with fail
      refine bodyPost_ret (results_none rfl _ _ _) rfl ?_
      exact ⟨⟨_, rfl⟩, .inr ⟨_, trivial, hJx4⟩⟩
end
end Go.Proofs.YtlklmpjakeedcaaGreatDoor

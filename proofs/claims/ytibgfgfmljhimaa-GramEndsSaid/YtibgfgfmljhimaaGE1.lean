/-
  GramEnds: grammars with one thing wrong.
  Conditions: none.
-/
import Derived.Test.YtibgfgfmljhimaaGE0
import Derived.Test.YtibgfgfmljhimaaGTells
import Derived.Test.YtibgfgfmljhimaaGSameL
set_option linter.unusedVariables false
set_option linter.unusedSimpArgs false
set_option linter.unnecessarySimpa false
namespace Go.Proofs.Ytibgfgfmljhimaa
open Go.RowKit Go.MapKept Go.Shelf

theorem Try.infoGram : (Try.prog.info? 25).map (fun i => (i.zero, i.size, i.bytes)) = some (some (.agg #[.slice none 0 0, .slice none 0 0]), 2, 48) := by kernel_rfl
def ExF (w : World) (e : Ending) (w' : World) : Prop :=
  ∃ R G, ∃ L : List Cp, e = .returned (.agg #[.slice (some ⟨R, 0, none⟩) 1 1, .slice (some ⟨G, 0, none⟩) 5 5]) ∧ L.map (·.1) = exG.nodes ∧ FreshRules w.heap.size w' (some ⟨R, 0, none⟩) 1 exG.rules ∧ OwnN w.heap.size w' (some ⟨G, 0, none⟩) 5 L ∧ Chg [] w w'
theorem exF_at {B : Nat} {W : World} {b1 b2 b3 b4 : Nat} (hb1 : B ≤ b1) (hb2 : B ≤ b2) (hb3 : B ≤ b3) (hb4 : B ≤ b4) (h23 : b2 ≠ b3) (g1 : W.heap[b1]? = some (.cells #[.string ⟨#[65]⟩, .int .i64 0] 46 (0, 0))) (g2 : W.heap[b2]? = some (.cells #[.int .i64 1, .int .i64 4] 3 (0, 0))) (g3 : W.heap[b3]? = some (.cells #[.int .i64 2, .int .i64 3] 3 (0, 0)))
    (g4 : W.heap[b4]? = some (.cells #[.int .i64 7, .int .u64 0, .int .u64 0, .int .u64 0, .int .u64 0, .string ⟨#[]⟩, .int .i64 0, .int .i64 0, .slice (some ⟨b2, 0, none⟩) 2 2,
      .int .i64 6, .int .u64 0, .int .u64 0, .int .u64 0, .int .u64 0, .string ⟨#[]⟩, .int .i64 0, .int .i64 0, .slice (some ⟨b3, 0, none⟩) 2 2,
      .int .i64 4, .int .u64 0, .int .u64 0, .int .u64 0, .int .u64 0, .string ⟨#[97]⟩, .int .i64 0, .int .i64 0, .slice none 0 0,
      .int .i64 5, .int .u64 0, .int .u64 0, .int .u64 0, .int .u64 0, .string ⟨#[]⟩, .int .i64 0, .int .i64 0, .slice none 0 0,
      .int .i64 1, .int .u64 0, .int .u64 0, .int .u64 0, .int .u64 0, .string ⟨#[]⟩, .int .i64 0, .int .i64 0, .slice none 0 0] 32 (0, 0))) :
    ∃ L : List Cp, L.map (·.1) = exG.nodes ∧ FreshRules B W (some ⟨b1, 0, none⟩) 1 exG.rules ∧ OwnN B W (some ⟨b4, 0, none⟩) 5 L := by
  refine ⟨[(nd0 7 [1, 4], some ⟨b2, 0, none⟩, 2), (nd0 6 [2, 3], some ⟨b3, 0, none⟩, 2), (⟨4, 0, 0, 0, 0, ⟨#[97]⟩, 0, 0, []⟩, none, 0), (nd0 5 [], none, 0), (nd0 1 [], none, 0)], rfl, ⟨rfl, .inr ⟨b1, 1, _, rfl, hb1, g1, Nat.le_refl _, by decide, rfl, rfl⟩⟩, ⟨⟨rfl, .inr ⟨b4, 5, _, rfl, hb4, g4, Nat.le_refl _, by decide, rfl, rfl⟩⟩, ?_, ?_⟩⟩
  · intro p hp
    simp only [List.mem_cons, List.not_mem_nil, or_false] at hp
    rcases hp with rfl | rfl | rfl | rfl | rfl
    · exact ⟨rfl, .inr ⟨b2, 2, _, rfl, hb2, g2, Nat.le_refl _, by decide, rfl, rfl⟩⟩
    · exact ⟨rfl, .inr ⟨b3, 2, _, rfl, hb3, g3, Nat.le_refl _, by decide, rfl, rfl⟩⟩
    · exact World.ownsRow_nil _ _ _ _
    · exact World.ownsRow_nil _ _ _ _
    · exact World.ownsRow_nil _ _ _ _
  · simp only [List.pairwise_cons, List.mem_cons, List.not_mem_nil, or_false]
    have hn : ∀ j, Cp.own (⟨4, 0, 0, 0, 0, ⟨#[97]⟩, 0, 0, []⟩, none, 0) = some j → False := fun j hj => by cases hj
    have hn2 : ∀ k j, Cp.own (nd0 k [], none, 0) = some j → False := fun k j hj => by cases hj
    refine ⟨fun p hp i j hi hj => ?_, fun p hp i j hi hj => ?_, fun p hp i j hi hj => (hn _ hi).elim, fun p hp i j hi hj => (hn2 _ _ hi).elim, fun p hp i j hi hj => (hn2 _ _ hi).elim, List.Pairwise.nil⟩
    · rcases hp with rfl | rfl | rfl | rfl
      · cases hi; cases hj; exact h23
      · exact (hn _ hj).elim
      · exact (hn2 _ _ hj).elim
      · exact (hn2 _ _ hj).elim
    · rcases hp with rfl | rfl | rfl
      · exact (hn _ hj).elim
      · exact (hn2 _ _ hj).elim
      · exact (hn2 _ _ hj).elim
set_option maxRecDepth 100000 in
set_option maxHeartbeats 2000000 in
theorem exampleF_any (w : World) : Calls Try.prog 78 #[] w (ExF w) := by
  go_enter Try.func78, Try.ntmps78
  go_wp2
  refine bodyPost_ret (v := .agg #[.slice (some ⟨w.heap.size + 1, 0, none⟩) 1 1, .slice (some ⟨w.heap.size + 1 + 1 + 1 + 1, 0, none⟩) 5 5]) (by simp [results, Try.results78, go_sem]) rfl ?_
  obtain ⟨L, h1, h2, h3⟩ := exF_at (B := w.heap.size) (by omega) (by omega) (by omega) (by omega) (by omega) (heap_at0 w _ _ _ _ _).2.1 (heap_at0 w _ _ _ _ _).2.2.1 (heap_at0 w _ _ _ _ _).2.2.2.1 (heap_at0 w _ _ _ _ _).2.2.2.2
  exact ⟨_, _, L, rfl, h1, h2, h3, (((((Chg.refl _ _).alloc _).alloc _).alloc _).alloc _).alloc _⟩

def twoG : Gr := ⟨[⟨⟨#[65]⟩, 0⟩, ⟨⟨#[66]⟩, 5⟩], [nd0 7 [1, 4], nd0 6 [2, 3], ⟨4, 0, 0, 0, 0, ⟨#[97]⟩, 0, 0, []⟩, nd0 5 [], nd0 1 [], bareN 2]⟩
theorem two_at {L : List Cp} (hL : L.map (·.1) = twoG.nodes) : L.length = 6 := by have := congrArg List.length hL; rw [List.length_map] at this; exact this
theorem two_el {L : List Cp} (hL : L.map (·.1) = twoG.nodes) {i : Nat} (hi : i < L.length) (hi2 : i < twoG.nodes.length) : L[i].1 = twoG.nodes[i] := by
  have h1 : (L.map (·.1))[i]? = twoG.nodes[i]? := by rw [hL]
  rw [List.getElem?_map, List.getElem?_eq_getElem hi, List.getElem?_eq_getElem hi2] at h1
  exact Option.some.inj h1
theorem set_kid_map {L : List Cp} (hL : L.map (·.1) = twoG.nodes) {i : Nat} (hi : i < L.length) (hi2 : i < twoG.nodes.length) (k : Nat) (v : Int) : (L.set i (L[i].setKid k v)).map (·.1) = twoG.nodes.set i (twoG.nodes[i].setKid k v) := by
  rw [List.map_set, hL]
  simp only [Cp.setKid, two_el hL hi hi2]
theorem set_r_map {L : List Cp} (hL : L.map (·.1) = twoG.nodes) {i : Nat} (hi : i < L.length) (hi2 : i < twoG.nodes.length) (v : Int) : (L.set i (L[i].setR v)).map (·.1) = twoG.nodes.set i (twoG.nodes[i].setR v) := by
  rw [List.map_set, hL]
  simp only [Cp.setR, two_el hL hi hi2]
def optN (z : Int) : Nd := { bareN 10 with kids := [z] }
def optL (m : Nat) : List Nd := (List.range m).map fun (j : Nat) => optN ((j : Int) + 1)
theorem optL_succ (m : Nat) : optL (m + 1) = optL m ++ [optN ((m : Int) + 1)] := by simp [optL, List.range_succ]
theorem opt_wf {m : Nat} (hm : m ≤ 100) : Gr.Wf ⟨[⟨⟨#[65]⟩, 0⟩], optL m ++ [bareN 2]⟩ ∧ Reach ⟨[⟨⟨#[65]⟩, 0⟩], optL m ++ [bareN 2]⟩ := by
  have key : ∀ x ∈ optL m ++ [bareN 2], x = bareN 2 ∨ ∃ j : Nat, j < m ∧ x = optN ((j : Int) + 1) := fun x hx => by
    simp only [List.mem_append, List.mem_singleton, optL, List.mem_map, List.mem_range] at hx
    rcases hx with ⟨j, hj, rfl⟩ | rfl
    · exact .inr ⟨j, hj, rfl⟩
    · exact .inl rfl
  refine ⟨⟨fun x hx => ?_, fun r hr => ?_, fun r hr => ?_⟩, by show (1 : Nat) ≤ _; omega, ?_, fun x hx => ?_⟩
  · rcases key x hx with rfl | ⟨j, hj, rfl⟩
    · exact ⟨by decide, by decide, by decide, (fun z hz => by cases hz), by decide⟩
    · refine ⟨by show I64 10; decide, by show I64 0; decide, by show I64 0; decide, fun z hz => ?_, by show (0 : Nat) ≤ maxLen; exact Nat.zero_le _⟩
      simp only [optN, List.mem_singleton] at hz
      subst hz
      unfold I64; omega
  · simp only [List.mem_singleton] at hr; subst hr; decide
  · simp only [List.mem_singleton] at hr; subst hr; decide
  · show (optL m ++ [bareN 2]).length ≤ _
    simp [optL]; omega
  · rcases key x hx with rfl | ⟨j, hj, rfl⟩
    · show (0 : Nat) ≤ _; omega
    · show (1 : Nat) ≤ _; omega
/-- Another row than rules, nodes, numbers grows. -/
theorem GRow.others {B : Nat} {w w' : World} {a : Option Addr} {n c : Nat} {L : List GP} (h : GRow B w a n c L) (hg : w.grownBy w' (Value.slice a n c).ownBlock) : (∀ q : GP, q.Ok w → q.Ok w') ∧ ∀ k o, k < B → w.heap[k]? = some o → w'.heap[k]? = some o := by
  have hc : Chg (Value.slice a n c).ownBlock.toList w w' := (Chg.refl _ w).grown hg (fun k hk => .inl (by rw [hk]; simp))
  refine ⟨fun q hq => hq.chg hc (fun k hk => ?_), fun k o hk ho => grown_heap hg ho (fun he => by have := (row_beyond h.row he).1; omega)⟩
  simp only [Option.mem_toList] at hk
  exact ⟨row_notrow h.row hk (by decide), row_notrow h.row hk (by decide), row_notrow h.row hk (by decide)⟩
theorem GRow.base_le {B : Nat} {w : World} {a : Option Addr} {n c : Nat} {L : List GP} (h : GRow B w a n c L) (hn : 0 < n) : B ≤ w.heap.size := by
  rcases h.row.2 with ⟨h0, h1⟩ | ⟨g, cap, cur, h0, hb, hg, _⟩
  · omega
  · have := lt_of_block hg; omega
theorem ok_of {w : World} {B : Nat} {b1 : Option Addr} {d1 : Nat} {b2 : Option Addr} {d2 : Nat} {L : List Cp} {g : Gr} (hL : L.map (·.1) = g.nodes) (h1 : FreshRules B w b1 d1 g.rules) (h2 : OwnN B w b2 d2 L) (hw : wfB g = true) (hr : reachB g = true) : GP.Ok w ⟨b1, d1, b2, d2, g⟩ :=
  ⟨L, hL, row_base h1 (Nat.zero_le _), h2.below (Nat.zero_le _), wf_of hw, reach_of hr⟩

set_option maxRecDepth 100000 in
set_option maxHeartbeats 32000000 in
theorem bent_any (w : World) : Calls Try.prog 37 #[] w fun e w' => e = .returned (.bool true) ∧ Chg [] w w' := by
  obtain ⟨i0, hi0, hz0, hz1, hz2⟩ := info_parts Try.infoRule
  obtain ⟨j0, hj0, hy0, hy1, hy2⟩ := info_parts Try.infoNode
  obtain ⟨g0, hg0, hx0, hx1, hx2⟩ := info_parts Try.infoGram
  go_enter Try.func37, Try.ntmps37
  go_wp2_with fail
  refine (exampleF_any _).mono ?_
  rintro e w1 ⟨R0, G0, L0, rfl, hL0, hR0, hN0, hc1⟩
  have hcA := (Chg.refl [] w1).alloc (.cells #[.slice (some ⟨R0, 0, none⟩) 1 1, .slice (some ⟨G0, 0, none⟩) 5 5] 25)
  have hb1 := heap_alloc_same w1 (.cells #[.slice (some ⟨R0, 0, none⟩) 1 1, .slice (some ⟨G0, 0, none⟩) 5 5] 25)
  have hok0 : GP.Ok (w1.alloc (.cells #[.slice (some ⟨R0, 0, none⟩) 1 1, .slice (some ⟨G0, 0, none⟩) 5 5] 25)) ⟨_, 1, _, 5, exG⟩ := (ok_of (g := exG) hL0 hR0 hN0 (by decide +kernel) (by decide +kernel)).chg0 hcA
  have hlt1 : w1.heap.size < (w1.alloc (.cells #[.slice (some ⟨R0, 0, none⟩) 1 1, .slice (some ⟨G0, 0, none⟩) 5 5] 25)).heap.size := by simp
  obtain ⟨w2, e2⟩ : ∃ w2, w2 = w1.alloc (.cells #[.slice (some ⟨R0, 0, none⟩) 1 1, .slice (some ⟨G0, 0, none⟩) 5 5] 25) := ⟨_, rfl⟩
  rw [← e2] at hcA hb1 hok0 hlt1
  have H2 := Lib.hid (And.intro (hc1.tr hcA) (And.intro hb1 hok0))
  obtain ⟨x0, x1⟩ := cells2 hb1
  have hwg := hlt1
  clear hcA hb1 hok0 hlt1 hc1 hL0 hR0 hN0
  go_wp2_with fail
  rw [← e2]
  clear e2
  obtain ⟨Bg, hBg⟩ : ∃ Bg, Bg = w1.heap.size := ⟨_, rfl⟩
  rw [← hBg] at x0 x1 hwg H2 ⊢
  clear hBg
  refine (CopyGrammarF_any _ (some ⟨R0, 0, none⟩) 1 1 (some ⟨G0, 0, none⟩) 5 5 exG H2.out.2.2.gram (by decide) (by decide) (by decide +kernel)).mono ?_
  rintro e w3 ⟨b1, d1, b2, d2, L, rfl, hL, hR3, hN3, hc3⟩
  have hLl : L.length = 5 := by have := congrArg List.length hL; rw [List.length_map] at this; exact this
  have hw23 := hc3.size
  rw [show exG.rules.length = 1 from rfl, show exG.nodes.length = 5 from rfl]
  have hcA := (Chg.refl [] w3).alloc (.cells #[.slice b1 1 d1, .slice b2 5 d2] 25)
  have hMA : MakeG w2 w3.heap.size Bg (.slice (some ⟨R0, 0, none⟩) 1 1) (.slice (some ⟨G0, 0, none⟩) 5 5) b1 1 d1 b2 5 d2 exG.rules L (w3.alloc (.cells #[.slice b1 1 d1, .slice b2 5 d2] 25)) :=
    ⟨rfl, hLl.symm, heap_alloc_same _ _, (hc3.tr hcA).heap H2.out.2.1 (by simp), hcA.row hR3 (fun _ _ => by simp), hN3.chg0 hcA, hc3.tr hcA⟩
  have hMB := hMA.chg0 ((Chg.refl [] _).alloc (.cells #[.string ⟨#[66]⟩, .int .i64 5] 46))
  have hrow := hMB.rules
  have hnew := cells_at (w := (w3.alloc (.cells #[.slice b1 1 d1, .slice b2 5 d2] 25)).alloc (.cells #[.string ⟨#[66]⟩, .int .i64 5] 46)) (heap_alloc_same _ _)
  rw [World.size_alloc] at hnew
  have h1' : ∀ u ∈ [Value.string ⟨#[66]⟩, Value.int .i64 5], u.oneCell' = true := by simp [Value.oneCell']
  have h2' : 1 + 1 ≤ maxLen ∧ (1 + 1) * 24 ≤ 140737488355328 := by simp only [maxLen]; omega
  have h3' : 5 + 1 ≤ maxLen ∧ (5 + 1) * 96 ≤ 140737488355328 := by simp only [maxLen]; omega
  obtain ⟨t0, t1⟩ := cells2 hMA.box
  have HA := Lib.hid (And.intro hrow (And.intro hnew (And.intro h1' (And.intro h2' (And.intro hMB.chg.size (And.intro hMB h3'))))))
  have HL := Lib.hid (And.intro hL hLl)
  clear hrow hnew h1' h2' h3' hMA hMB hL hLl hR3 hN3 hcA hc3 x0 x1
  go_wp2_with (first
    | (at_builtin; refine wpList_append_own_at _ rfl _ _ 22 rfl w2.heap.size 46 i0 _ 2 24 Try.underlying22 hi0 hz0 hz1 hz2 rfl (by decide) (.slice b1 1 d1) 1 (rulesCells exG.rules) rfl HA.out.1 ⟨w3.heap.size + 1, 0, none⟩ 1 1 [.string ⟨#[66]⟩, .int .i64 5] rfl rfl HA.out.2.1 HA.out.2.2.1 HA.out.2.2.2.1.1 HA.out.2.2.2.1.2 HA.out.2.2.2.2.1 ?_; intro v' w6 hr6 hg6 hn6 hb6; obtain ⟨a5, c5, rfl⟩ := ownsRow_slice hr6; have hM := HA.out.2.2.2.2.2.1.rule (r := ⟨⟨#[66]⟩, 5⟩) hw23 hwg hr6 hg6; have q0 := (cells2 hM.1).1; have f0 := free_of_cells hM.1 0; have q1 := (cells2 hM.2.box).2; have q2 := cells2 hM.2.gbox; have HM := Lib.hid hM.2; clear hr6 hg6 hn6 hb6 hM)
    | (at_builtin; have hcC := (Chg.refl [] (w6.setCell ⟨w3.heap.size, 0, none⟩ (.slice a5 (1 + 1) c5))).alloc (.cells #[.int .i64 2, .int .u64 0, .int .u64 0, .int .u64 0, .int .u64 0, .string ⟨#[]⟩, .int .i64 0, .int .i64 0, .slice none 0 0] 32); have hMC := HM.out.chg0 hcC; have hnew := cells_at (heap_alloc_same (w6.setCell ⟨w3.heap.size, 0, none⟩ (.slice a5 (1 + 1) c5)) (.cells #[.int .i64 2, .int .u64 0, .int .u64 0, .int .u64 0, .int .u64 0, .string ⟨#[]⟩, .int .i64 0, .int .i64 0, .slice none 0 0] 32)); have hsz : (w6.setCell ⟨w3.heap.size, 0, none⟩ (.slice a5 (1 + 1) c5)).heap.size = w6.heap.size := (by simp [World.setCell]); rw [hsz] at hnew; have hrowN := hMC.nodes.nodes; rw [HL.out.2] at hrowN; have h1n : ∀ u ∈ (#[.int .i64 2, .int .u64 0, .int .u64 0, .int .u64 0, .int .u64 0, .string ⟨#[]⟩, .int .i64 0, .int .i64 0, .slice none 0 0] : Array Value).toList, u.oneCell' = true := (by simp [Value.oneCell']); have HC := Lib.hid (And.intro hMC hrowN); have hszB := hMC.chg.size; clear hcC hMC;
        refine wpList_append_own_at _ rfl _ _ 23 rfl w2.heap.size 32 j0 _ 9 96 Try.underlying23 hj0 hy0 hy1 hy2 rfl (by decide) (.slice b2 5 d2) 5 (nodesCells L) rfl hrowN ⟨w6.heap.size, 0, none⟩ 1 1 (#[.int .i64 2, .int .u64 0, .int .u64 0, .int .u64 0, .int .u64 0, .string ⟨#[]⟩, .int .i64 0, .int .i64 0, .slice none 0 0] : Array Value).toList rfl rfl hnew h1n HA.out.2.2.2.2.2.2.1 HA.out.2.2.2.2.2.2.2 hszB ?_; intro v' w9 hr9 hg9 hn9 hb9; obtain ⟨a6, c6, rfl⟩ := ownsRow_slice hr9; have hMj := HC.out.1.join (M := [(bareN 2, none, 0)]) (ml := 1) hw23 hwg (by intro p hp; simp only [List.mem_singleton] at hp; subst hp; exact World.ownsRow_nil _ _ _ _) (List.pairwise_singleton _ _) (by intro q hq p hp i j hi hj; simp only [List.mem_singleton] at hp; subst hp; cases hj) rfl (by rw [nodesCells_one]; exact hr9) hg9; have q3 := (cells2 hMj.1).2; have f3 := free_of_cells hMj.1 1; obtain ⟨q4, q5⟩ := cells2 hMj.2.gbox; obtain ⟨q6, q7⟩ := cells2 hMj.2.box; have HM2 := Lib.hid hMj.2; clear hr9 hg9 hn9 hb9 hMj HC hnew h1n hrowN hszB hsz))
  clear q0 q1 q2 q3 q4 q5 q6 q7 f0 f3 t0 t1
  obtain ⟨T, hT⟩ : ∃ T, T = w3.heap.size := ⟨_, rfl⟩
  rw [← hT] at HM2 ⊢
  obtain ⟨wE, eE⟩ : ∃ wE, wE = w9.setCell ⟨T, 1, none⟩ (.slice a6 6 c6) := ⟨_, rfl⟩
  have hszE : w9.heap.size = wE.heap.size := by rw [eE]; simp [World.setCell]
  have hM9 : MakeG w2 T Bg (.slice (some ⟨R0, 0, none⟩) 1 1) (.slice (some ⟨G0, 0, none⟩) 5 5) a5 2 c5 a6 6 c6 twoG.rules (L ++ [(bareN 2, none, 0)]) wE := by rw [eE]; exact HM2.out
  rw [hszE, ← eE]
  clear hszE HM2 HM HA eE
  have hTE := lt_of_block hM9.box
  have hL9 : List.map (fun p : Cp => p.1) (L ++ [(bareN 2, none, 0)]) = twoG.nodes := by rw [List.map_append, HL.out.1]; rfl
  have hok2 : GP.Ok wE ⟨a5, c5, a6, c6, twoG⟩ := ok_of (g := twoG) hL9 hM9.rules hM9.nodes (by decide +kernel) (by decide +kernel)
  have hcF := (Chg.refl [] wE).alloc (.cells #[.slice none 0 0, .slice none 0 0, .slice (some ⟨R0, 0, none⟩) 1 1, .slice (some ⟨G0, 0, none⟩) 5 5, .slice a5 2 c5, .slice a6 6 c6] 25)
  have hwE : Chg [] w wE := H2.out.1.tr hM9.chg
  have hg3 : GRow wE.heap.size (wE.alloc (.cells #[.slice none 0 0, .slice none 0 0, .slice (some ⟨R0, 0, none⟩) 1 1, .slice (some ⟨G0, 0, none⟩) 5 5, .slice a5 2 c5, .slice a6 6 c6] 25)) (some ⟨wE.heap.size, 0, none⟩) 3 3 [⟨none, 0, none, 0, ⟨[], []⟩⟩, ⟨some ⟨R0, 0, none⟩, 1, some ⟨G0, 0, none⟩, 5, exG⟩, ⟨a5, c5, a6, c6, twoG⟩] := by
    refine ⟨rfl, ⟨rfl, .inr ⟨wE.heap.size, 3, _, rfl, Nat.le_refl _, heap_alloc_same _ _, Nat.le_refl _, by decide, rfl, rfl⟩⟩, fun p hp => ?_⟩
    simp only [List.mem_cons, List.not_mem_nil, or_false] at hp
    rcases hp with rfl | rfl | rfl
    · exact ⟨[], rfl, World.ownsRow_nil _ _ _ _, .nil _ _, wf_of (by decide +kernel), reach_of (by decide +kernel)⟩
    · exact H2.out.2.2.chg0 (hM9.chg.tr hcF)
    · exact hok2.chg0 hcF
  have hbxF := hcF.heap hM9.box (by simp)
  have hokF := hok2.chg0 hcF
  obtain ⟨wF, eF⟩ : ∃ wF, wF = wE.alloc (.cells #[.slice none 0 0, .slice none 0 0, .slice (some ⟨R0, 0, none⟩) 1 1, .slice (some ⟨G0, 0, none⟩) 5 5, .slice a5 2 c5, .slice a6 6 c6] 25) := ⟨_, rfl⟩
  rw [← eF] at hg3 hbxF hokF hcF ⊢
  clear eF
  obtain ⟨B, hB⟩ : ∃ B, B = wE.heap.size := ⟨_, rfl⟩
  rw [← hB] at hg3 hTE ⊢
  have hwB : w.heap.size ≤ B := by rw [hB]; exact hwE.size
  have HF := Lib.hid (And.intro hg3 (And.intro hbxF (And.intro hokF (hwE.tr hcF))))
  clear hg3 hbxF hokF hcF hB hwE hok2 hL9 hM9 HL H2 hT hwg hw23
  go_loopg [3, 4] 12 (fun dd lv iv wr => ∃ (k : Nat) (a : Option Addr) (c : Nat), dd = 12 - k ∧ k ≤ 12 ∧ lv = .slice a (k + 3) c ∧ iv = .int .i64 k ∧ Hid (∃ L, GRow B wr a (k + 3) c L ∧ wr.heap[T]? = some (.cells #[.slice a5 2 c5, .slice a6 6 c6] 25 (0, 0)) ∧ GP.Ok wr ⟨a5, c5, a6, c6, twoG⟩ ∧ Chg [] w wr))
  case atStart => exact ⟨0, _, _, rfl, Nat.zero_le _, rfl, rfl, Lib.hid ⟨_, HF.out.1, HF.out.2.1, HF.out.2.2.1, HF.out.2.2.2⟩⟩
  case round =>
    obtain ⟨k, la, lc, rfl, hk, rfl, rfl, hin⟩ := hrel
    obtain ⟨wq, rfl⟩ : ∃ wq, wq = wr := ⟨_, rfl⟩
    by_cases hlt : k < 12
    · obtain ⟨L, hrow, hbox, hok, hcw⟩ := hin.out
      obtain ⟨x0, x1⟩ := cells2 hbox
      have hTq := lt_of_block hbox
      have HQ := Lib.hid (And.intro hrow (And.intro hbox (And.intro hok hcw)))
      clear hrow hbox hok hcw
      go_wp2_with fail
      refine (CopyGrammarF_any _ a5 2 c5 a6 6 c6 twoG HQ.out.2.2.1.gram (by decide) (by decide) (by decide +kernel)).mono ?_
      rintro e w5 ⟨b1, d1, b2, d2, M, rfl, hM, hR5, hN5, hc5⟩
      rw [show twoG.rules.length = 2 from rfl, show twoG.nodes.length = 6 from rfl]
      have hMl := two_at hM
      have hcX := (Chg.refl [] w5).alloc (.cells #[.slice b1 2 d1, .slice b2 6 d2] 25)
      have hRX := hcX.row hR5 (fun _ _ => by simp)
      have hNX := hN5.chg0 hcX
      have hbX := heap_alloc_same w5 (.cells #[.slice b1 2 d1, .slice b2 6 d2] 25)
      have hcQX := hc5.tr hcX
      obtain ⟨R, rfl, hRB, ⟨curR, hcurR⟩, hr2, hr2f, hput2⟩ := rules_put hR5 (i := 1) (by decide)
      obtain ⟨hr3, hr3f, -, -, hput3⟩ := body_put hR5 (i := 1) (by decide)
      obtain ⟨hr1, hr1f, -, -, hput1⟩ := body_put hR5 (i := 0) (by decide)
      obtain ⟨G, rfl, hGB, ⟨curG, hcurG⟩, hcells, hfrG⟩ := hN5.at (i := 0) (by omega)
      have hk0 : (M[0]'(by omega)).1.kids = [1, 4] := by rw [two_el hM (by omega) (by decide)]; rfl
      obtain ⟨K, hK, hKB, hck0, hck0f, hkput0⟩ := hN5.kidPut (i := 0) (by omega) (k := 0) (by rw [hk0]; decide)
      obtain ⟨K', hK', -, hck1, hck1f, hkput1⟩ := hN5.kidPut (i := 0) (by omega) (k := 1) (by rw [hk0]; decide)
      obtain rfl : K = K' := by rw [hK] at hK'; cases hK'; rfl
      obtain ⟨hn33, hn33f, -, -, hrput⟩ := hN5.rPut (i := 3) (by omega)
      have h8 : ∃ dk, w5.cell? ⟨G, 8, none⟩ = some (.slice (some ⟨K, 0, none⟩) 2 dk) := by
        refine ⟨(M[0]'(by omega)).2.2, ?_⟩
        obtain ⟨G', hG', -, -, hcells, -⟩ := hN5.at (i := 0) (by omega)
        obtain rfl : G = G' := by cases hG'; rfl
        have h9 := hcells 8 (by decide)
        rw [Nat.zero_mul, Nat.zero_add] at h9
        rw [h9]
        show some (Value.slice (M[0]'(by omega)).2.1 (M[0]'(by omega)).1.kids.length (M[0]'(by omega)).2.2) = _
        rw [hK, hk0]; rfl
      obtain ⟨dk, h8⟩ := h8
      have hRT : R < w5.heap.size := (row_beyond hR5 rfl).2.1
      have hGT : G < w5.heap.size := (row_beyond hN5.nodes rfl).2.1
      have hKT : K < w5.heap.size := by
        have h9 := hN5.kids _ (List.getElem_mem (show 0 < M.length by omega))
        exact (row_beyond h9 (by rw [hK]; rfl)).2.1
      have hqT : wq.heap.size ≤ w5.heap.size := hc5.size
      obtain ⟨hd1, hd2⟩ : 2 ≤ d1 ∧ d1 ≤ 9223372036854775807 := by obtain ⟨_, _, z2, z3⟩ := rules_row (row_base hRX (Nat.zero_le _)); simp only [maxLen] at z3; exact ⟨z2, z3⟩
      obtain ⟨hd3, hd4⟩ : 6 ≤ d2 ∧ d2 ≤ 9223372036854775807 := by obtain ⟨_, z2, z3⟩ := hNX.read; simp only [maxLen] at z3; exact ⟨by omega, z3⟩
      have hBq : B ≤ wq.heap.size := HQ.out.1.base_le (by omega)
      have HP := Lib.hid (And.intro hput2 (And.intro hput3 (And.intro hput1 (And.intro hkput0 (And.intro hkput1 hrput)))))
      have HX := Lib.hid (And.intro hcQX (And.intro hRX (And.intro hNX (And.intro hbX (And.intro hM hMl)))))
      have HV := Lib.hid (And.intro hc5 (And.intro hR5 hN5))
      have HC := Lib.hid (And.intro hcurR hcurG)
      have hKN : NotRow w5 46 K := row_notrow (hN5.kids _ (List.getElem_mem (show 0 < M.length by omega))) (by rw [hK]; rfl) (by decide)
      have HKN := Lib.hid hKN
      clear hKN
      obtain ⟨v2, kr2, kr2f⟩ : ∃ v, w5.cell? ⟨R, 2, none⟩ = some v ∧ w5.frozen? ⟨R, 2, none⟩ = false := by have h9 := row_put hR5 (i := 2) (by decide); exact ⟨_, h9.1.trans rfl, h9.2.1⟩
      obtain ⟨v3, kr3, kr3f⟩ : ∃ v, w5.cell? ⟨R, 3, none⟩ = some v ∧ w5.frozen? ⟨R, 3, none⟩ = false := by have h9 := row_put hR5 (i := 3) (by decide); exact ⟨_, h9.1.trans rfl, h9.2.1⟩
      obtain ⟨v1, kr1, kr1f⟩ : ∃ v, w5.cell? ⟨R, 1, none⟩ = some v ∧ w5.frozen? ⟨R, 1, none⟩ = false := by have h9 := row_put hR5 (i := 1) (by decide); exact ⟨_, h9.1.trans rfl, h9.2.1⟩
      obtain ⟨v33, kn33, kn33f⟩ : ∃ v, w5.cell? ⟨G, 33, none⟩ = some v ∧ w5.frozen? ⟨G, 33, none⟩ = false := by have h9 := hN5.rPut (i := 3) (by omega); exact ⟨_, h9.1, h9.2.1⟩
      obtain ⟨vk0, kk0, kk0f⟩ : ∃ v, w5.cell? ⟨K, 0, none⟩ = some v ∧ w5.frozen? ⟨K, 0, none⟩ = false := by
        obtain ⟨K', hK', -, h9, h9f, -⟩ := hN5.kidPut (i := 0) (by omega) (k := 0) (by rw [hk0]; decide)
        obtain rfl : K = K' := by rw [hK] at hK'; cases hK'; rfl
        exact ⟨_, h9, h9f⟩
      obtain ⟨vk1, kk1, kk1f⟩ : ∃ v, w5.cell? ⟨K, 1, none⟩ = some v ∧ w5.frozen? ⟨K, 1, none⟩ = false := by
        obtain ⟨K', hK', -, h9, h9f, -⟩ := hN5.kidPut (i := 0) (by omega) (k := 1) (by rw [hk0]; decide)
        obtain rfl : K = K' := by rw [hK] at hK'; cases hK'; rfl
        exact ⟨_, h9, h9f⟩
      clear hr2 hr2f hr3 hr3f hr1 hr1f hn33 hn33f hck0 hck0f hck1 hck1f
      clear hput2 hput3 hput1 hkput0 hkput1 hrput hcQX hRX hNX hbX hM hcurR hcurG hcells hfrG hk0 hK hK' hR5 hN5 hc5 hcX x0 x1 hin
      rcases (show k = 0 ∨ k = 1 ∨ k = 2 ∨ k = 3 ∨ k = 4 ∨ k = 5 ∨ k = 6 ∨ k = 7 ∨ k = 8 ∨ k = 9 ∨ k = 10 ∨ k = 11 by omega) with rfl | rfl | rfl | rfl | rfl | rfl | rfl | rfl | rfl | rfl | rfl | rfl
      · skip
        have hZ : Chg [] wq ((w5.setCell ⟨R, 2, none⟩ (.string ⟨#[65]⟩)).alloc (.cells #[.slice (some ⟨R, 0, none⟩) 2 d1, .slice (some ⟨G, 0, none⟩) 6 d2] 25)) := (HV.out.1.trans (HP.out.1 ⟨#[65]⟩).2 (fun j hj => .inr (by simp at hj; omega))).alloc _
        have hP : GP.Ok ((w5.setCell ⟨R, 2, none⟩ (.string ⟨#[65]⟩)).alloc (.cells #[.slice (some ⟨R, 0, none⟩) 2 d1, .slice (some ⟨G, 0, none⟩) 6 d2] 25)) ⟨some ⟨R, 0, none⟩, d1, some ⟨G, 0, none⟩, d2, ⟨twoG.rules.set 1 ⟨⟨#[65]⟩, 5⟩, twoG.nodes⟩⟩ := GP.Ok.chg0 (w := (w5.setCell ⟨R, 2, none⟩ (.string ⟨#[65]⟩))) (ok_of (g := ⟨twoG.rules.set 1 ⟨⟨#[65]⟩, 5⟩, twoG.nodes⟩) HX.out.2.2.2.2.1 (HP.out.1 ⟨#[65]⟩).1 (HV.out.2.2.chg (HP.out.1 ⟨#[65]⟩).2 (fun k hk => by simp only [List.mem_singleton] at hk; subst hk; exact ⟨.of_cells HC.out.1 (by decide), .of_cells HC.out.1 (by decide)⟩)) (by decide +kernel) (by decide +kernel)) ((Chg.refl [] _).alloc _)
        have hcT := (Chg.refl [] ((w5.setCell ⟨R, 2, none⟩ (.string ⟨#[65]⟩)).alloc (.cells #[.slice (some ⟨R, 0, none⟩) 2 d1, .slice (some ⟨G, 0, none⟩) 6 d2] 25))).alloc (.cells #[.slice (some ⟨R, 0, none⟩) 2 d1, .slice (some ⟨G, 0, none⟩) 6 d2] 25)
        have hcQ := hZ.tr hcT
        have hG2 := HQ.out.1.chg0 hcQ
        have hP2 := hP.chg0 hcT
        have hnew := cells_at (w := (((w5.setCell ⟨R, 2, none⟩ (.string ⟨#[65]⟩)).alloc (.cells #[.slice (some ⟨R, 0, none⟩) 2 d1, .slice (some ⟨G, 0, none⟩) 6 d2] 25))).alloc (.cells #[.slice (some ⟨R, 0, none⟩) 2 d1, .slice (some ⟨G, 0, none⟩) 6 d2] 25)) (heap_alloc_same _ _)
        have hszZ : (((w5.setCell ⟨R, 2, none⟩ (.string ⟨#[65]⟩)).alloc (.cells #[.slice (some ⟨R, 0, none⟩) 2 d1, .slice (some ⟨G, 0, none⟩) 6 d2] 25))).heap.size = w5.heap.size + 1 := by simp [World.setCell]
        rw [hszZ] at hnew
        have h1n : ∀ u ∈ [Value.slice (some ⟨R, 0, none⟩) 2 d1, Value.slice (some ⟨G, 0, none⟩) 6 d2], u.oneCell' = true := by simp [Value.oneCell']
        have h2n : 0 + 3 + 1 ≤ maxLen ∧ (0 + 3 + 1) * 48 ≤ 140737488355328 := by simp only [maxLen]; omega
        have hbn : B ≤ ((((w5.setCell ⟨R, 2, none⟩ (.string ⟨#[65]⟩)).alloc (.cells #[.slice (some ⟨R, 0, none⟩) 2 d1, .slice (some ⟨G, 0, none⟩) 6 d2] 25))).alloc (.cells #[.slice (some ⟨R, 0, none⟩) 2 d1, .slice (some ⟨G, 0, none⟩) 6 d2] 25)).heap.size := Nat.le_trans hBq hcQ.size
        have HA := Lib.hid (And.intro hG2.row (And.intro hnew (And.intro h1n (And.intro h2n (And.intro hbn (And.intro hG2 (And.intro hP2 hcQ)))))))
        clear hcT hcQ hG2 hP2 hnew hszZ h1n h2n hbn hP hZ
        go_wp2_with (at_builtin; refine wpList_append_own_at _ rfl _ _ 102 rfl B 25 g0 _ 2 48 Try.underlying102 hg0 hx0 hx1 hx2 rfl (by decide) (.slice la (0 + 3) lc) (0 + 3) (gpCells L) rfl HA.out.1 ⟨w5.heap.size + 1, 0, none⟩ 1 1 [Value.slice (some ⟨R, 0, none⟩) 2 d1, Value.slice (some ⟨G, 0, none⟩) 6 d2] rfl rfl HA.out.2.1 HA.out.2.2.1 HA.out.2.2.2.1.1 HA.out.2.2.2.1.2 HA.out.2.2.2.2.1 ?_; intro v' w9 hr9 hg9 hn9 hb9; obtain ⟨a9, c9, rfl⟩ := ownsRow_slice hr9; have HW := Lib.hid (And.intro hr9 hg9); clear hr9 hg9 hn9 hb9)
        go_roundg (12 - (0 + 1))
        case measure => omega
        case rel =>
          obtain ⟨q1, q2⟩ := HA.out.2.2.2.2.2.1.snoc HA.out.2.2.2.2.2.2.1 HW.out.1 HW.out.2
          obtain ⟨q3, q4⟩ := HA.out.2.2.2.2.2.1.others HW.out.2
          have q5 := HA.out.2.2.2.2.2.2.2
          exact ⟨0 + 1, a9, c9, rfl, by omega, rfl, by go_num, Lib.hid ⟨_, q1, q4 _ _ hTE (q5.heap HQ.out.2.1 (by simp)), q3 _ (HQ.out.2.2.1.chg0 q5), q2 B (Nat.le_refl _) w (HQ.out.2.2.2.tr q5) hwB⟩⟩
      · skip
        have hZ : Chg [] wq ((w5.setCell ⟨R, 3, none⟩ (.int .i64 0)).alloc (.cells #[.slice (some ⟨R, 0, none⟩) 2 d1, .slice (some ⟨G, 0, none⟩) 6 d2] 25)) := (HV.out.1.trans (HP.out.2.1 0).2 (fun j hj => .inr (by simp at hj; omega))).alloc _
        have hP : GP.Ok ((w5.setCell ⟨R, 3, none⟩ (.int .i64 0)).alloc (.cells #[.slice (some ⟨R, 0, none⟩) 2 d1, .slice (some ⟨G, 0, none⟩) 6 d2] 25)) ⟨some ⟨R, 0, none⟩, d1, some ⟨G, 0, none⟩, d2, ⟨twoG.rules.set 1 ⟨⟨#[66]⟩, 0⟩, twoG.nodes⟩⟩ := GP.Ok.chg0 (w := (w5.setCell ⟨R, 3, none⟩ (.int .i64 0))) (ok_of (g := ⟨twoG.rules.set 1 ⟨⟨#[66]⟩, 0⟩, twoG.nodes⟩) HX.out.2.2.2.2.1 (HP.out.2.1 0).1 (HV.out.2.2.chg (HP.out.2.1 0).2 (fun k hk => by simp only [List.mem_singleton] at hk; subst hk; exact ⟨.of_cells HC.out.1 (by decide), .of_cells HC.out.1 (by decide)⟩)) (by decide +kernel) (by decide +kernel)) ((Chg.refl [] _).alloc _)
        have hcT := (Chg.refl [] ((w5.setCell ⟨R, 3, none⟩ (.int .i64 0)).alloc (.cells #[.slice (some ⟨R, 0, none⟩) 2 d1, .slice (some ⟨G, 0, none⟩) 6 d2] 25))).alloc (.cells #[.slice (some ⟨R, 0, none⟩) 2 d1, .slice (some ⟨G, 0, none⟩) 6 d2] 25)
        have hcQ := hZ.tr hcT
        have hG2 := HQ.out.1.chg0 hcQ
        have hP2 := hP.chg0 hcT
        have hnew := cells_at (w := (((w5.setCell ⟨R, 3, none⟩ (.int .i64 0)).alloc (.cells #[.slice (some ⟨R, 0, none⟩) 2 d1, .slice (some ⟨G, 0, none⟩) 6 d2] 25))).alloc (.cells #[.slice (some ⟨R, 0, none⟩) 2 d1, .slice (some ⟨G, 0, none⟩) 6 d2] 25)) (heap_alloc_same _ _)
        have hszZ : (((w5.setCell ⟨R, 3, none⟩ (.int .i64 0)).alloc (.cells #[.slice (some ⟨R, 0, none⟩) 2 d1, .slice (some ⟨G, 0, none⟩) 6 d2] 25))).heap.size = w5.heap.size + 1 := by simp [World.setCell]
        rw [hszZ] at hnew
        have h1n : ∀ u ∈ [Value.slice (some ⟨R, 0, none⟩) 2 d1, Value.slice (some ⟨G, 0, none⟩) 6 d2], u.oneCell' = true := by simp [Value.oneCell']
        have h2n : 1 + 3 + 1 ≤ maxLen ∧ (1 + 3 + 1) * 48 ≤ 140737488355328 := by simp only [maxLen]; omega
        have hbn : B ≤ ((((w5.setCell ⟨R, 3, none⟩ (.int .i64 0)).alloc (.cells #[.slice (some ⟨R, 0, none⟩) 2 d1, .slice (some ⟨G, 0, none⟩) 6 d2] 25))).alloc (.cells #[.slice (some ⟨R, 0, none⟩) 2 d1, .slice (some ⟨G, 0, none⟩) 6 d2] 25)).heap.size := Nat.le_trans hBq hcQ.size
        have HA := Lib.hid (And.intro hG2.row (And.intro hnew (And.intro h1n (And.intro h2n (And.intro hbn (And.intro hG2 (And.intro hP2 hcQ)))))))
        clear hcT hcQ hG2 hP2 hnew hszZ h1n h2n hbn hP hZ
        go_wp2_with (at_builtin; refine wpList_append_own_at _ rfl _ _ 102 rfl B 25 g0 _ 2 48 Try.underlying102 hg0 hx0 hx1 hx2 rfl (by decide) (.slice la (1 + 3) lc) (1 + 3) (gpCells L) rfl HA.out.1 ⟨w5.heap.size + 1, 0, none⟩ 1 1 [Value.slice (some ⟨R, 0, none⟩) 2 d1, Value.slice (some ⟨G, 0, none⟩) 6 d2] rfl rfl HA.out.2.1 HA.out.2.2.1 HA.out.2.2.2.1.1 HA.out.2.2.2.1.2 HA.out.2.2.2.2.1 ?_; intro v' w9 hr9 hg9 hn9 hb9; obtain ⟨a9, c9, rfl⟩ := ownsRow_slice hr9; have HW := Lib.hid (And.intro hr9 hg9); clear hr9 hg9 hn9 hb9)
        go_roundg (12 - (1 + 1))
        case measure => omega
        case rel =>
          obtain ⟨q1, q2⟩ := HA.out.2.2.2.2.2.1.snoc HA.out.2.2.2.2.2.2.1 HW.out.1 HW.out.2
          obtain ⟨q3, q4⟩ := HA.out.2.2.2.2.2.1.others HW.out.2
          have q5 := HA.out.2.2.2.2.2.2.2
          exact ⟨1 + 1, a9, c9, rfl, by omega, rfl, by go_num, Lib.hid ⟨_, q1, q4 _ _ hTE (q5.heap HQ.out.2.1 (by simp)), q3 _ (HQ.out.2.2.1.chg0 q5), q2 B (Nat.le_refl _) w (HQ.out.2.2.2.tr q5) hwB⟩⟩
      · have hMX : MakeG wq w5.heap.size T (.slice a5 2 c5) (.slice a6 6 c6) (some ⟨R, 0, none⟩) 2 d1 (some ⟨G, 0, none⟩) 6 d2 twoG.rules M ((w5.alloc (.cells #[.slice (some ⟨R, 0, none⟩) 2 d1, .slice (some ⟨G, 0, none⟩) 6 d2] 25)).alloc (.cells #[.int .i64 2, .int .u64 0, .int .u64 0, .int .u64 0, .int .u64 0, .string ⟨#[]⟩, .int .i64 0, .int .i64 0, .slice none 0 0] 32)) := MakeG.chg0 (W := w5.alloc (.cells #[.slice (some ⟨R, 0, none⟩) 2 d1, .slice (some ⟨G, 0, none⟩) 6 d2] 25)) ⟨rfl, hMl.symm, HX.out.2.2.2.1, HX.out.1.heap HQ.out.2.1 (by simp), HX.out.2.1, HX.out.2.2.1, HX.out.1⟩ ((Chg.refl [] _).alloc _)
        have hnewN := cells_at (heap_alloc_same (w5.alloc (.cells #[.slice (some ⟨R, 0, none⟩) 2 d1, .slice (some ⟨G, 0, none⟩) 6 d2] 25)) (.cells #[.int .i64 2, .int .u64 0, .int .u64 0, .int .u64 0, .int .u64 0, .string ⟨#[]⟩, .int .i64 0, .int .i64 0, .slice none 0 0] 32))
        rw [World.size_alloc] at hnewN
        have hrowN := hMX.nodes.nodes
        rw [hMl] at hrowN
        have h1N : ∀ u ∈ (#[.int .i64 2, .int .u64 0, .int .u64 0, .int .u64 0, .int .u64 0, .string ⟨#[]⟩, .int .i64 0, .int .i64 0, .slice none 0 0] : Array Value).toList, u.oneCell' = true := by simp [Value.oneCell']
        have h2N : 6 + 1 ≤ maxLen ∧ (6 + 1) * 96 ≤ 140737488355328 := by simp only [maxLen]; omega
        have HD := Lib.hid (And.intro hMX (And.intro hrowN (And.intro hnewN (And.intro h1N (And.intro h2N hMX.chg.size)))))
        clear hMX hrowN hnewN h1N h2N
        go_wp2_with (first
          | (at_builtin; refine wpList_append_own_at _ rfl _ _ 23 rfl wq.heap.size 32 j0 _ 9 96 Try.underlying23 hj0 hy0 hy1 hy2 rfl (by decide) (.slice (some ⟨G, 0, none⟩) 6 d2) 6 (nodesCells M) rfl HD.out.2.1 ⟨w5.heap.size + 1, 0, none⟩ 1 1 (#[.int .i64 2, .int .u64 0, .int .u64 0, .int .u64 0, .int .u64 0, .string ⟨#[]⟩, .int .i64 0, .int .i64 0, .slice none 0 0] : Array Value).toList rfl rfl HD.out.2.2.1 HD.out.2.2.2.1 HD.out.2.2.2.2.1.1 HD.out.2.2.2.2.1.2 HD.out.2.2.2.2.2 ?_; intro v' w8 hr8 hg8 hn8 hb8; obtain ⟨a8, c8, rfl⟩ := ownsRow_slice hr8; have hMj := HD.out.1.join (M := [(bareN 2, none, 0)]) (ml := 1) hqT hTq (by intro p hp; simp only [List.mem_singleton] at hp; subst hp; exact World.ownsRow_nil _ _ _ _) (List.pairwise_singleton _ _) (by intro q hq p hp i j hi hj; simp only [List.mem_singleton] at hp; subst hp; cases hj) rfl (by rw [nodesCells_one]; exact hr8) hg8; have q3 := (cells2 hMj.1).2; have f3 := free_of_cells hMj.1 1; obtain ⟨q6, q7⟩ := cells2 hMj.2.box; have HJ := Lib.hid hMj.2; clear hr8 hg8 hn8 hb8 hMj)
          | (at_builtin; have hcT := (Chg.refl [] (w8.setCell ⟨w5.heap.size, 1, none⟩ (.slice a8 7 c8))).alloc (.cells #[.slice (some ⟨R, 0, none⟩) 2 d1, .slice a8 7 c8] 25); have hcQ := HJ.out.chg.tr hcT; have hG2 := HQ.out.1.chg0 hcQ; have hP2 := GP.Ok.chg0 (p := ⟨some ⟨R, 0, none⟩, d1, a8, c8, ⟨twoG.rules, twoG.nodes ++ [bareN 2]⟩⟩) (ok_of (g := ⟨twoG.rules, twoG.nodes ++ [bareN 2]⟩) (by rw [List.map_append, HX.out.2.2.2.2.1]; rfl) HJ.out.rules HJ.out.nodes (by decide +kernel) (by decide +kernel)) hcT; have hnew := cells_at (heap_alloc_same (w8.setCell ⟨w5.heap.size, 1, none⟩ (.slice a8 7 c8)) (.cells #[.slice (some ⟨R, 0, none⟩) 2 d1, .slice a8 7 c8] 25)); rw [show (w8.setCell ⟨w5.heap.size, 1, none⟩ (.slice a8 7 c8)).heap.size = w8.heap.size by simp [World.setCell]] at hnew; have h1n : ∀ u ∈ [Value.slice (some ⟨R, 0, none⟩) 2 d1, Value.slice a8 7 c8], u.oneCell' = true := (by simp [Value.oneCell']); have h2n : 2 + 3 + 1 ≤ maxLen ∧ (2 + 3 + 1) * 48 ≤ 140737488355328 := (by simp only [maxLen]; omega); have HA := Lib.hid (And.intro hG2.row (And.intro hnew (And.intro h1n (And.intro h2n (And.intro (Nat.le_trans hBq hcQ.size) (And.intro hG2 (And.intro hP2 hcQ))))))); clear hcT hcQ hG2 hP2 hnew h1n h2n;
              refine wpList_append_own_at _ rfl _ _ 102 rfl B 25 g0 _ 2 48 Try.underlying102 hg0 hx0 hx1 hx2 rfl (by decide) (.slice la (2 + 3) lc) (2 + 3) (gpCells L) rfl HA.out.1 ⟨w8.heap.size, 0, none⟩ 1 1 [Value.slice (some ⟨R, 0, none⟩) 2 d1, Value.slice a8 7 c8] rfl rfl HA.out.2.1 HA.out.2.2.1 HA.out.2.2.2.1.1 HA.out.2.2.2.1.2 HA.out.2.2.2.2.1 ?_; intro v' w9 hr9 hg9 hn9 hb9; obtain ⟨a9, c9, rfl⟩ := ownsRow_slice hr9; have HW := Lib.hid (And.intro hr9 hg9); clear hr9 hg9 hn9 hb9))
        go_roundg (12 - (2 + 1))
        case measure => omega
        case rel =>
          obtain ⟨q1, q2⟩ := HA.out.2.2.2.2.2.1.snoc HA.out.2.2.2.2.2.2.1 HW.out.1 HW.out.2
          obtain ⟨q3, q4⟩ := HA.out.2.2.2.2.2.1.others HW.out.2
          have q5 := HA.out.2.2.2.2.2.2.2
          exact ⟨2 + 1, a9, c9, rfl, by omega, rfl, by go_num, Lib.hid ⟨_, q1, q4 _ _ hTE (q5.heap HQ.out.2.1 (by simp)), q3 _ (HQ.out.2.2.1.chg0 q5), q2 B (Nat.le_refl _) w (HQ.out.2.2.2.tr q5) hwB⟩⟩
      · skip
        have hZ : Chg [] wq ((w5.setCell ⟨K, 1, none⟩ (.int .i64 3)).alloc (.cells #[.slice (some ⟨R, 0, none⟩) 2 d1, .slice (some ⟨G, 0, none⟩) 6 d2] 25)) := (HV.out.1.trans (HP.out.2.2.2.2.1 3).2 (fun j hj => .inr (by simp at hj; omega))).alloc _
        have hP : GP.Ok ((w5.setCell ⟨K, 1, none⟩ (.int .i64 3)).alloc (.cells #[.slice (some ⟨R, 0, none⟩) 2 d1, .slice (some ⟨G, 0, none⟩) 6 d2] 25)) ⟨some ⟨R, 0, none⟩, d1, some ⟨G, 0, none⟩, d2, ⟨twoG.rules, twoG.nodes.set 0 (twoG.nodes[0].setKid 1 3)⟩⟩ := GP.Ok.chg0 (w := (w5.setCell ⟨K, 1, none⟩ (.int .i64 3))) (ok_of (g := ⟨twoG.rules, twoG.nodes.set 0 (twoG.nodes[0].setKid 1 3)⟩) (set_kid_map HX.out.2.2.2.2.1 (by have := HX.out.2.2.2.2.2; omega) (by decide) 1 3) ((HP.out.2.2.2.2.1 3).2.rowOf HV.out.2.1 (fun k hk => by simp only [List.mem_singleton] at hk; subst hk; exact HKN.out)) (HP.out.2.2.2.2.1 3).1 (by decide +kernel) (by decide +kernel)) ((Chg.refl [] _).alloc _)
        have hcT := (Chg.refl [] ((w5.setCell ⟨K, 1, none⟩ (.int .i64 3)).alloc (.cells #[.slice (some ⟨R, 0, none⟩) 2 d1, .slice (some ⟨G, 0, none⟩) 6 d2] 25))).alloc (.cells #[.slice (some ⟨R, 0, none⟩) 2 d1, .slice (some ⟨G, 0, none⟩) 6 d2] 25)
        have hcQ := hZ.tr hcT
        have hG2 := HQ.out.1.chg0 hcQ
        have hP2 := hP.chg0 hcT
        have hnew := cells_at (w := (((w5.setCell ⟨K, 1, none⟩ (.int .i64 3)).alloc (.cells #[.slice (some ⟨R, 0, none⟩) 2 d1, .slice (some ⟨G, 0, none⟩) 6 d2] 25))).alloc (.cells #[.slice (some ⟨R, 0, none⟩) 2 d1, .slice (some ⟨G, 0, none⟩) 6 d2] 25)) (heap_alloc_same _ _)
        have hszZ : (((w5.setCell ⟨K, 1, none⟩ (.int .i64 3)).alloc (.cells #[.slice (some ⟨R, 0, none⟩) 2 d1, .slice (some ⟨G, 0, none⟩) 6 d2] 25))).heap.size = w5.heap.size + 1 := by simp [World.setCell]
        rw [hszZ] at hnew
        have h1n : ∀ u ∈ [Value.slice (some ⟨R, 0, none⟩) 2 d1, Value.slice (some ⟨G, 0, none⟩) 6 d2], u.oneCell' = true := by simp [Value.oneCell']
        have h2n : 3 + 3 + 1 ≤ maxLen ∧ (3 + 3 + 1) * 48 ≤ 140737488355328 := by simp only [maxLen]; omega
        have hbn : B ≤ ((((w5.setCell ⟨K, 1, none⟩ (.int .i64 3)).alloc (.cells #[.slice (some ⟨R, 0, none⟩) 2 d1, .slice (some ⟨G, 0, none⟩) 6 d2] 25))).alloc (.cells #[.slice (some ⟨R, 0, none⟩) 2 d1, .slice (some ⟨G, 0, none⟩) 6 d2] 25)).heap.size := Nat.le_trans hBq hcQ.size
        have HA := Lib.hid (And.intro hG2.row (And.intro hnew (And.intro h1n (And.intro h2n (And.intro hbn (And.intro hG2 (And.intro hP2 hcQ)))))))
        clear hcT hcQ hG2 hP2 hnew hszZ h1n h2n hbn hP hZ
        go_wp2_with (at_builtin; refine wpList_append_own_at _ rfl _ _ 102 rfl B 25 g0 _ 2 48 Try.underlying102 hg0 hx0 hx1 hx2 rfl (by decide) (.slice la (3 + 3) lc) (3 + 3) (gpCells L) rfl HA.out.1 ⟨w5.heap.size + 1, 0, none⟩ 1 1 [Value.slice (some ⟨R, 0, none⟩) 2 d1, Value.slice (some ⟨G, 0, none⟩) 6 d2] rfl rfl HA.out.2.1 HA.out.2.2.1 HA.out.2.2.2.1.1 HA.out.2.2.2.1.2 HA.out.2.2.2.2.1 ?_; intro v' w9 hr9 hg9 hn9 hb9; obtain ⟨a9, c9, rfl⟩ := ownsRow_slice hr9; have HW := Lib.hid (And.intro hr9 hg9); clear hr9 hg9 hn9 hb9)
        go_roundg (12 - (3 + 1))
        case measure => omega
        case rel =>
          obtain ⟨q1, q2⟩ := HA.out.2.2.2.2.2.1.snoc HA.out.2.2.2.2.2.2.1 HW.out.1 HW.out.2
          obtain ⟨q3, q4⟩ := HA.out.2.2.2.2.2.1.others HW.out.2
          have q5 := HA.out.2.2.2.2.2.2.2
          exact ⟨3 + 1, a9, c9, rfl, by omega, rfl, by go_num, Lib.hid ⟨_, q1, q4 _ _ hTE (q5.heap HQ.out.2.1 (by simp)), q3 _ (HQ.out.2.2.1.chg0 q5), q2 B (Nat.le_refl _) w (HQ.out.2.2.2.tr q5) hwB⟩⟩
      · skip
        have hZ : Chg [] wq ((w5.setCell ⟨K, 0, none⟩ (.int .i64 0)).alloc (.cells #[.slice (some ⟨R, 0, none⟩) 2 d1, .slice (some ⟨G, 0, none⟩) 6 d2] 25)) := (HV.out.1.trans (HP.out.2.2.2.1 0).2 (fun j hj => .inr (by simp at hj; omega))).alloc _
        have hP : GP.Ok ((w5.setCell ⟨K, 0, none⟩ (.int .i64 0)).alloc (.cells #[.slice (some ⟨R, 0, none⟩) 2 d1, .slice (some ⟨G, 0, none⟩) 6 d2] 25)) ⟨some ⟨R, 0, none⟩, d1, some ⟨G, 0, none⟩, d2, ⟨twoG.rules, twoG.nodes.set 0 (twoG.nodes[0].setKid 0 0)⟩⟩ := GP.Ok.chg0 (w := (w5.setCell ⟨K, 0, none⟩ (.int .i64 0))) (ok_of (g := ⟨twoG.rules, twoG.nodes.set 0 (twoG.nodes[0].setKid 0 0)⟩) (set_kid_map HX.out.2.2.2.2.1 (by have := HX.out.2.2.2.2.2; omega) (by decide) 0 0) ((HP.out.2.2.2.1 0).2.rowOf HV.out.2.1 (fun k hk => by simp only [List.mem_singleton] at hk; subst hk; exact HKN.out)) (HP.out.2.2.2.1 0).1 (by decide +kernel) (by decide +kernel)) ((Chg.refl [] _).alloc _)
        have hcT := (Chg.refl [] ((w5.setCell ⟨K, 0, none⟩ (.int .i64 0)).alloc (.cells #[.slice (some ⟨R, 0, none⟩) 2 d1, .slice (some ⟨G, 0, none⟩) 6 d2] 25))).alloc (.cells #[.slice (some ⟨R, 0, none⟩) 2 d1, .slice (some ⟨G, 0, none⟩) 6 d2] 25)
        have hcQ := hZ.tr hcT
        have hG2 := HQ.out.1.chg0 hcQ
        have hP2 := hP.chg0 hcT
        have hnew := cells_at (w := (((w5.setCell ⟨K, 0, none⟩ (.int .i64 0)).alloc (.cells #[.slice (some ⟨R, 0, none⟩) 2 d1, .slice (some ⟨G, 0, none⟩) 6 d2] 25))).alloc (.cells #[.slice (some ⟨R, 0, none⟩) 2 d1, .slice (some ⟨G, 0, none⟩) 6 d2] 25)) (heap_alloc_same _ _)
        have hszZ : (((w5.setCell ⟨K, 0, none⟩ (.int .i64 0)).alloc (.cells #[.slice (some ⟨R, 0, none⟩) 2 d1, .slice (some ⟨G, 0, none⟩) 6 d2] 25))).heap.size = w5.heap.size + 1 := by simp [World.setCell]
        rw [hszZ] at hnew
        have h1n : ∀ u ∈ [Value.slice (some ⟨R, 0, none⟩) 2 d1, Value.slice (some ⟨G, 0, none⟩) 6 d2], u.oneCell' = true := by simp [Value.oneCell']
        have h2n : 4 + 3 + 1 ≤ maxLen ∧ (4 + 3 + 1) * 48 ≤ 140737488355328 := by simp only [maxLen]; omega
        have hbn : B ≤ ((((w5.setCell ⟨K, 0, none⟩ (.int .i64 0)).alloc (.cells #[.slice (some ⟨R, 0, none⟩) 2 d1, .slice (some ⟨G, 0, none⟩) 6 d2] 25))).alloc (.cells #[.slice (some ⟨R, 0, none⟩) 2 d1, .slice (some ⟨G, 0, none⟩) 6 d2] 25)).heap.size := Nat.le_trans hBq hcQ.size
        have HA := Lib.hid (And.intro hG2.row (And.intro hnew (And.intro h1n (And.intro h2n (And.intro hbn (And.intro hG2 (And.intro hP2 hcQ)))))))
        clear hcT hcQ hG2 hP2 hnew hszZ h1n h2n hbn hP hZ
        go_wp2_with (at_builtin; refine wpList_append_own_at _ rfl _ _ 102 rfl B 25 g0 _ 2 48 Try.underlying102 hg0 hx0 hx1 hx2 rfl (by decide) (.slice la (4 + 3) lc) (4 + 3) (gpCells L) rfl HA.out.1 ⟨w5.heap.size + 1, 0, none⟩ 1 1 [Value.slice (some ⟨R, 0, none⟩) 2 d1, Value.slice (some ⟨G, 0, none⟩) 6 d2] rfl rfl HA.out.2.1 HA.out.2.2.1 HA.out.2.2.2.1.1 HA.out.2.2.2.1.2 HA.out.2.2.2.2.1 ?_; intro v' w9 hr9 hg9 hn9 hb9; obtain ⟨a9, c9, rfl⟩ := ownsRow_slice hr9; have HW := Lib.hid (And.intro hr9 hg9); clear hr9 hg9 hn9 hb9)
        go_roundg (12 - (4 + 1))
        case measure => omega
        case rel =>
          obtain ⟨q1, q2⟩ := HA.out.2.2.2.2.2.1.snoc HA.out.2.2.2.2.2.2.1 HW.out.1 HW.out.2
          obtain ⟨q3, q4⟩ := HA.out.2.2.2.2.2.1.others HW.out.2
          have q5 := HA.out.2.2.2.2.2.2.2
          exact ⟨4 + 1, a9, c9, rfl, by omega, rfl, by go_num, Lib.hid ⟨_, q1, q4 _ _ hTE (q5.heap HQ.out.2.1 (by simp)), q3 _ (HQ.out.2.2.1.chg0 q5), q2 B (Nat.le_refl _) w (HQ.out.2.2.2.tr q5) hwB⟩⟩
      · skip
        have hZ : Chg [] wq (w5.alloc (.cells #[.slice (some ⟨R, 0, none⟩) 2 d1, .slice (some ⟨G, 0, none⟩) 5 d2] 25)) := HV.out.1.alloc _
        have hP : GP.Ok (w5.alloc (.cells #[.slice (some ⟨R, 0, none⟩) 2 d1, .slice (some ⟨G, 0, none⟩) 5 d2] 25)) ⟨some ⟨R, 0, none⟩, d1, some ⟨G, 0, none⟩, d2, ⟨twoG.rules, twoG.nodes.take 5⟩⟩ := GP.Ok.chg0 (w := w5) (ok_of (g := ⟨twoG.rules, twoG.nodes.take 5⟩) (by rw [List.map_take, HX.out.2.2.2.2.1]) HV.out.2.1 (OwnN.taken HV.out.2.2 (m := 5) (by have := HX.out.2.2.2.2.2; omega) (by simp)) (by decide +kernel) (by decide +kernel)) ((Chg.refl [] _).alloc _)
        have hcT := (Chg.refl [] (w5.alloc (.cells #[.slice (some ⟨R, 0, none⟩) 2 d1, .slice (some ⟨G, 0, none⟩) 5 d2] 25))).alloc (.cells #[.slice (some ⟨R, 0, none⟩) 2 d1, .slice (some ⟨G, 0, none⟩) 5 d2] 25)
        have hcQ := hZ.tr hcT
        have hG2 := HQ.out.1.chg0 hcQ
        have hP2 := hP.chg0 hcT
        have hnew := cells_at (w := ((w5.alloc (.cells #[.slice (some ⟨R, 0, none⟩) 2 d1, .slice (some ⟨G, 0, none⟩) 5 d2] 25))).alloc (.cells #[.slice (some ⟨R, 0, none⟩) 2 d1, .slice (some ⟨G, 0, none⟩) 5 d2] 25)) (heap_alloc_same _ _)
        have hszZ : ((w5.alloc (.cells #[.slice (some ⟨R, 0, none⟩) 2 d1, .slice (some ⟨G, 0, none⟩) 5 d2] 25))).heap.size = w5.heap.size + 1 := by simp [World.setCell]
        rw [hszZ] at hnew
        have h1n : ∀ u ∈ [Value.slice (some ⟨R, 0, none⟩) 2 d1, Value.slice (some ⟨G, 0, none⟩) 5 d2], u.oneCell' = true := by simp [Value.oneCell']
        have h2n : 5 + 3 + 1 ≤ maxLen ∧ (5 + 3 + 1) * 48 ≤ 140737488355328 := by simp only [maxLen]; omega
        have hbn : B ≤ (((w5.alloc (.cells #[.slice (some ⟨R, 0, none⟩) 2 d1, .slice (some ⟨G, 0, none⟩) 5 d2] 25))).alloc (.cells #[.slice (some ⟨R, 0, none⟩) 2 d1, .slice (some ⟨G, 0, none⟩) 5 d2] 25)).heap.size := Nat.le_trans hBq hcQ.size
        have HA := Lib.hid (And.intro hG2.row (And.intro hnew (And.intro h1n (And.intro h2n (And.intro hbn (And.intro hG2 (And.intro hP2 hcQ)))))))
        clear hcT hcQ hG2 hP2 hnew hszZ h1n h2n hbn hP hZ
        go_wp2_with (at_builtin; refine wpList_append_own_at _ rfl _ _ 102 rfl B 25 g0 _ 2 48 Try.underlying102 hg0 hx0 hx1 hx2 rfl (by decide) (.slice la (5 + 3) lc) (5 + 3) (gpCells L) rfl HA.out.1 ⟨w5.heap.size + 1, 0, none⟩ 1 1 [Value.slice (some ⟨R, 0, none⟩) 2 d1, Value.slice (some ⟨G, 0, none⟩) 5 d2] rfl rfl HA.out.2.1 HA.out.2.2.1 HA.out.2.2.2.1.1 HA.out.2.2.2.1.2 HA.out.2.2.2.2.1 ?_; intro v' w9 hr9 hg9 hn9 hb9; obtain ⟨a9, c9, rfl⟩ := ownsRow_slice hr9; have HW := Lib.hid (And.intro hr9 hg9); clear hr9 hg9 hn9 hb9)
        go_roundg (12 - (5 + 1))
        case measure => omega
        case rel =>
          obtain ⟨q1, q2⟩ := HA.out.2.2.2.2.2.1.snoc HA.out.2.2.2.2.2.2.1 HW.out.1 HW.out.2
          obtain ⟨q3, q4⟩ := HA.out.2.2.2.2.2.1.others HW.out.2
          have q5 := HA.out.2.2.2.2.2.2.2
          exact ⟨5 + 1, a9, c9, rfl, by omega, rfl, by go_num, Lib.hid ⟨_, q1, q4 _ _ hTE (q5.heap HQ.out.2.1 (by simp)), q3 _ (HQ.out.2.2.1.chg0 q5), q2 B (Nat.le_refl _) w (HQ.out.2.2.2.tr q5) hwB⟩⟩
      · skip
        have hZ : Chg [] wq (w5.alloc (.cells #[.slice (some ⟨R, 0, none⟩) 1 d1, .slice (some ⟨G, 0, none⟩) 6 d2] 25)) := HV.out.1.alloc _
        have hP : GP.Ok (w5.alloc (.cells #[.slice (some ⟨R, 0, none⟩) 1 d1, .slice (some ⟨G, 0, none⟩) 6 d2] 25)) ⟨some ⟨R, 0, none⟩, d1, some ⟨G, 0, none⟩, d2, ⟨twoG.rules.take 1, twoG.nodes⟩⟩ := GP.Ok.chg0 (w := w5) (ok_of (g := ⟨twoG.rules.take 1, twoG.nodes⟩) HX.out.2.2.2.2.1 (FreshRules.taken HV.out.2.1 (m := 1) (by decide) (by simp)) HV.out.2.2 (by decide +kernel) (by decide +kernel)) ((Chg.refl [] _).alloc _)
        have hcT := (Chg.refl [] (w5.alloc (.cells #[.slice (some ⟨R, 0, none⟩) 1 d1, .slice (some ⟨G, 0, none⟩) 6 d2] 25))).alloc (.cells #[.slice (some ⟨R, 0, none⟩) 1 d1, .slice (some ⟨G, 0, none⟩) 6 d2] 25)
        have hcQ := hZ.tr hcT
        have hG2 := HQ.out.1.chg0 hcQ
        have hP2 := hP.chg0 hcT
        have hnew := cells_at (w := ((w5.alloc (.cells #[.slice (some ⟨R, 0, none⟩) 1 d1, .slice (some ⟨G, 0, none⟩) 6 d2] 25))).alloc (.cells #[.slice (some ⟨R, 0, none⟩) 1 d1, .slice (some ⟨G, 0, none⟩) 6 d2] 25)) (heap_alloc_same _ _)
        have hszZ : ((w5.alloc (.cells #[.slice (some ⟨R, 0, none⟩) 1 d1, .slice (some ⟨G, 0, none⟩) 6 d2] 25))).heap.size = w5.heap.size + 1 := by simp [World.setCell]
        rw [hszZ] at hnew
        have h1n : ∀ u ∈ [Value.slice (some ⟨R, 0, none⟩) 1 d1, Value.slice (some ⟨G, 0, none⟩) 6 d2], u.oneCell' = true := by simp [Value.oneCell']
        have h2n : 6 + 3 + 1 ≤ maxLen ∧ (6 + 3 + 1) * 48 ≤ 140737488355328 := by simp only [maxLen]; omega
        have hbn : B ≤ (((w5.alloc (.cells #[.slice (some ⟨R, 0, none⟩) 1 d1, .slice (some ⟨G, 0, none⟩) 6 d2] 25))).alloc (.cells #[.slice (some ⟨R, 0, none⟩) 1 d1, .slice (some ⟨G, 0, none⟩) 6 d2] 25)).heap.size := Nat.le_trans hBq hcQ.size
        have HA := Lib.hid (And.intro hG2.row (And.intro hnew (And.intro h1n (And.intro h2n (And.intro hbn (And.intro hG2 (And.intro hP2 hcQ)))))))
        clear hcT hcQ hG2 hP2 hnew hszZ h1n h2n hbn hP hZ
        go_wp2_with (at_builtin; refine wpList_append_own_at _ rfl _ _ 102 rfl B 25 g0 _ 2 48 Try.underlying102 hg0 hx0 hx1 hx2 rfl (by decide) (.slice la (6 + 3) lc) (6 + 3) (gpCells L) rfl HA.out.1 ⟨w5.heap.size + 1, 0, none⟩ 1 1 [Value.slice (some ⟨R, 0, none⟩) 1 d1, Value.slice (some ⟨G, 0, none⟩) 6 d2] rfl rfl HA.out.2.1 HA.out.2.2.1 HA.out.2.2.2.1.1 HA.out.2.2.2.1.2 HA.out.2.2.2.2.1 ?_; intro v' w9 hr9 hg9 hn9 hb9; obtain ⟨a9, c9, rfl⟩ := ownsRow_slice hr9; have HW := Lib.hid (And.intro hr9 hg9); clear hr9 hg9 hn9 hb9)
        go_roundg (12 - (6 + 1))
        case measure => omega
        case rel =>
          obtain ⟨q1, q2⟩ := HA.out.2.2.2.2.2.1.snoc HA.out.2.2.2.2.2.2.1 HW.out.1 HW.out.2
          obtain ⟨q3, q4⟩ := HA.out.2.2.2.2.2.1.others HW.out.2
          have q5 := HA.out.2.2.2.2.2.2.2
          exact ⟨6 + 1, a9, c9, rfl, by omega, rfl, by go_num, Lib.hid ⟨_, q1, q4 _ _ hTE (q5.heap HQ.out.2.1 (by simp)), q3 _ (HQ.out.2.2.1.chg0 q5), q2 B (Nat.le_refl _) w (HQ.out.2.2.2.tr q5) hwB⟩⟩
      · skip
        have hZ : Chg [] wq ((w5.setCell ⟨G, 33, none⟩ (.int .i64 1)).alloc (.cells #[.slice (some ⟨R, 0, none⟩) 2 d1, .slice (some ⟨G, 0, none⟩) 6 d2] 25)) := (HV.out.1.trans (HP.out.2.2.2.2.2 1).2 (fun j hj => .inr (by simp at hj; omega))).alloc _
        have hP : GP.Ok ((w5.setCell ⟨G, 33, none⟩ (.int .i64 1)).alloc (.cells #[.slice (some ⟨R, 0, none⟩) 2 d1, .slice (some ⟨G, 0, none⟩) 6 d2] 25)) ⟨some ⟨R, 0, none⟩, d1, some ⟨G, 0, none⟩, d2, ⟨twoG.rules, twoG.nodes.set 3 (twoG.nodes[3].setR 1)⟩⟩ := GP.Ok.chg0 (w := (w5.setCell ⟨G, 33, none⟩ (.int .i64 1))) (ok_of (g := ⟨twoG.rules, twoG.nodes.set 3 (twoG.nodes[3].setR 1)⟩) (set_r_map HX.out.2.2.2.2.1 (by have := HX.out.2.2.2.2.2; omega) (by decide) 1) ((HP.out.2.2.2.2.2 1).2.rowOf HV.out.2.1 (fun k hk => by simp only [List.mem_singleton] at hk; subst hk; exact .of_cells HC.out.2 (by decide))) (HP.out.2.2.2.2.2 1).1 (by decide +kernel) (by decide +kernel)) ((Chg.refl [] _).alloc _)
        have hcT := (Chg.refl [] ((w5.setCell ⟨G, 33, none⟩ (.int .i64 1)).alloc (.cells #[.slice (some ⟨R, 0, none⟩) 2 d1, .slice (some ⟨G, 0, none⟩) 6 d2] 25))).alloc (.cells #[.slice (some ⟨R, 0, none⟩) 2 d1, .slice (some ⟨G, 0, none⟩) 6 d2] 25)
        have hcQ := hZ.tr hcT
        have hG2 := HQ.out.1.chg0 hcQ
        have hP2 := hP.chg0 hcT
        have hnew := cells_at (w := (((w5.setCell ⟨G, 33, none⟩ (.int .i64 1)).alloc (.cells #[.slice (some ⟨R, 0, none⟩) 2 d1, .slice (some ⟨G, 0, none⟩) 6 d2] 25))).alloc (.cells #[.slice (some ⟨R, 0, none⟩) 2 d1, .slice (some ⟨G, 0, none⟩) 6 d2] 25)) (heap_alloc_same _ _)
        have hszZ : (((w5.setCell ⟨G, 33, none⟩ (.int .i64 1)).alloc (.cells #[.slice (some ⟨R, 0, none⟩) 2 d1, .slice (some ⟨G, 0, none⟩) 6 d2] 25))).heap.size = w5.heap.size + 1 := by simp [World.setCell]
        rw [hszZ] at hnew
        have h1n : ∀ u ∈ [Value.slice (some ⟨R, 0, none⟩) 2 d1, Value.slice (some ⟨G, 0, none⟩) 6 d2], u.oneCell' = true := by simp [Value.oneCell']
        have h2n : 7 + 3 + 1 ≤ maxLen ∧ (7 + 3 + 1) * 48 ≤ 140737488355328 := by simp only [maxLen]; omega
        have hbn : B ≤ ((((w5.setCell ⟨G, 33, none⟩ (.int .i64 1)).alloc (.cells #[.slice (some ⟨R, 0, none⟩) 2 d1, .slice (some ⟨G, 0, none⟩) 6 d2] 25))).alloc (.cells #[.slice (some ⟨R, 0, none⟩) 2 d1, .slice (some ⟨G, 0, none⟩) 6 d2] 25)).heap.size := Nat.le_trans hBq hcQ.size
        have HA := Lib.hid (And.intro hG2.row (And.intro hnew (And.intro h1n (And.intro h2n (And.intro hbn (And.intro hG2 (And.intro hP2 hcQ)))))))
        clear hcT hcQ hG2 hP2 hnew hszZ h1n h2n hbn hP hZ
        go_wp2_with (at_builtin; refine wpList_append_own_at _ rfl _ _ 102 rfl B 25 g0 _ 2 48 Try.underlying102 hg0 hx0 hx1 hx2 rfl (by decide) (.slice la (7 + 3) lc) (7 + 3) (gpCells L) rfl HA.out.1 ⟨w5.heap.size + 1, 0, none⟩ 1 1 [Value.slice (some ⟨R, 0, none⟩) 2 d1, Value.slice (some ⟨G, 0, none⟩) 6 d2] rfl rfl HA.out.2.1 HA.out.2.2.1 HA.out.2.2.2.1.1 HA.out.2.2.2.1.2 HA.out.2.2.2.2.1 ?_; intro v' w9 hr9 hg9 hn9 hb9; obtain ⟨a9, c9, rfl⟩ := ownsRow_slice hr9; have HW := Lib.hid (And.intro hr9 hg9); clear hr9 hg9 hn9 hb9)
        go_roundg (12 - (7 + 1))
        case measure => omega
        case rel =>
          obtain ⟨q1, q2⟩ := HA.out.2.2.2.2.2.1.snoc HA.out.2.2.2.2.2.2.1 HW.out.1 HW.out.2
          obtain ⟨q3, q4⟩ := HA.out.2.2.2.2.2.1.others HW.out.2
          have q5 := HA.out.2.2.2.2.2.2.2
          exact ⟨7 + 1, a9, c9, rfl, by omega, rfl, by go_num, Lib.hid ⟨_, q1, q4 _ _ hTE (q5.heap HQ.out.2.1 (by simp)), q3 _ (HQ.out.2.2.1.chg0 q5), q2 B (Nat.le_refl _) w (HQ.out.2.2.2.tr q5) hwB⟩⟩
      · skip
        have hZ : Chg [] wq ((w5.setCell ⟨G, 33, none⟩ (.int .i64 2)).alloc (.cells #[.slice (some ⟨R, 0, none⟩) 2 d1, .slice (some ⟨G, 0, none⟩) 6 d2] 25)) := (HV.out.1.trans (HP.out.2.2.2.2.2 2).2 (fun j hj => .inr (by simp at hj; omega))).alloc _
        have hP : GP.Ok ((w5.setCell ⟨G, 33, none⟩ (.int .i64 2)).alloc (.cells #[.slice (some ⟨R, 0, none⟩) 2 d1, .slice (some ⟨G, 0, none⟩) 6 d2] 25)) ⟨some ⟨R, 0, none⟩, d1, some ⟨G, 0, none⟩, d2, ⟨twoG.rules, twoG.nodes.set 3 (twoG.nodes[3].setR 2)⟩⟩ := GP.Ok.chg0 (w := (w5.setCell ⟨G, 33, none⟩ (.int .i64 2))) (ok_of (g := ⟨twoG.rules, twoG.nodes.set 3 (twoG.nodes[3].setR 2)⟩) (set_r_map HX.out.2.2.2.2.1 (by have := HX.out.2.2.2.2.2; omega) (by decide) 2) ((HP.out.2.2.2.2.2 2).2.rowOf HV.out.2.1 (fun k hk => by simp only [List.mem_singleton] at hk; subst hk; exact .of_cells HC.out.2 (by decide))) (HP.out.2.2.2.2.2 2).1 (by decide +kernel) (by decide +kernel)) ((Chg.refl [] _).alloc _)
        have hcT := (Chg.refl [] ((w5.setCell ⟨G, 33, none⟩ (.int .i64 2)).alloc (.cells #[.slice (some ⟨R, 0, none⟩) 2 d1, .slice (some ⟨G, 0, none⟩) 6 d2] 25))).alloc (.cells #[.slice (some ⟨R, 0, none⟩) 2 d1, .slice (some ⟨G, 0, none⟩) 6 d2] 25)
        have hcQ := hZ.tr hcT
        have hG2 := HQ.out.1.chg0 hcQ
        have hP2 := hP.chg0 hcT
        have hnew := cells_at (w := (((w5.setCell ⟨G, 33, none⟩ (.int .i64 2)).alloc (.cells #[.slice (some ⟨R, 0, none⟩) 2 d1, .slice (some ⟨G, 0, none⟩) 6 d2] 25))).alloc (.cells #[.slice (some ⟨R, 0, none⟩) 2 d1, .slice (some ⟨G, 0, none⟩) 6 d2] 25)) (heap_alloc_same _ _)
        have hszZ : (((w5.setCell ⟨G, 33, none⟩ (.int .i64 2)).alloc (.cells #[.slice (some ⟨R, 0, none⟩) 2 d1, .slice (some ⟨G, 0, none⟩) 6 d2] 25))).heap.size = w5.heap.size + 1 := by simp [World.setCell]
        rw [hszZ] at hnew
        have h1n : ∀ u ∈ [Value.slice (some ⟨R, 0, none⟩) 2 d1, Value.slice (some ⟨G, 0, none⟩) 6 d2], u.oneCell' = true := by simp [Value.oneCell']
        have h2n : 8 + 3 + 1 ≤ maxLen ∧ (8 + 3 + 1) * 48 ≤ 140737488355328 := by simp only [maxLen]; omega
        have hbn : B ≤ ((((w5.setCell ⟨G, 33, none⟩ (.int .i64 2)).alloc (.cells #[.slice (some ⟨R, 0, none⟩) 2 d1, .slice (some ⟨G, 0, none⟩) 6 d2] 25))).alloc (.cells #[.slice (some ⟨R, 0, none⟩) 2 d1, .slice (some ⟨G, 0, none⟩) 6 d2] 25)).heap.size := Nat.le_trans hBq hcQ.size
        have HA := Lib.hid (And.intro hG2.row (And.intro hnew (And.intro h1n (And.intro h2n (And.intro hbn (And.intro hG2 (And.intro hP2 hcQ)))))))
        clear hcT hcQ hG2 hP2 hnew hszZ h1n h2n hbn hP hZ
        go_wp2_with (at_builtin; refine wpList_append_own_at _ rfl _ _ 102 rfl B 25 g0 _ 2 48 Try.underlying102 hg0 hx0 hx1 hx2 rfl (by decide) (.slice la (8 + 3) lc) (8 + 3) (gpCells L) rfl HA.out.1 ⟨w5.heap.size + 1, 0, none⟩ 1 1 [Value.slice (some ⟨R, 0, none⟩) 2 d1, Value.slice (some ⟨G, 0, none⟩) 6 d2] rfl rfl HA.out.2.1 HA.out.2.2.1 HA.out.2.2.2.1.1 HA.out.2.2.2.1.2 HA.out.2.2.2.2.1 ?_; intro v' w9 hr9 hg9 hn9 hb9; obtain ⟨a9, c9, rfl⟩ := ownsRow_slice hr9; have HW := Lib.hid (And.intro hr9 hg9); clear hr9 hg9 hn9 hb9)
        go_roundg (12 - (8 + 1))
        case measure => omega
        case rel =>
          obtain ⟨q1, q2⟩ := HA.out.2.2.2.2.2.1.snoc HA.out.2.2.2.2.2.2.1 HW.out.1 HW.out.2
          obtain ⟨q3, q4⟩ := HA.out.2.2.2.2.2.1.others HW.out.2
          have q5 := HA.out.2.2.2.2.2.2.2
          exact ⟨8 + 1, a9, c9, rfl, by omega, rfl, by go_num, Lib.hid ⟨_, q1, q4 _ _ hTE (q5.heap HQ.out.2.1 (by simp)), q3 _ (HQ.out.2.2.1.chg0 q5), q2 B (Nat.le_refl _) w (HQ.out.2.2.2.tr q5) hwB⟩⟩
      · skip
        have hZ : Chg [] wq ((w5.setCell ⟨R, 1, none⟩ (.int .i64 1)).alloc (.cells #[.slice (some ⟨R, 0, none⟩) 2 d1, .slice (some ⟨G, 0, none⟩) 6 d2] 25)) := (HV.out.1.trans (HP.out.2.2.1 1).2 (fun j hj => .inr (by simp at hj; omega))).alloc _
        have hP : GP.Ok ((w5.setCell ⟨R, 1, none⟩ (.int .i64 1)).alloc (.cells #[.slice (some ⟨R, 0, none⟩) 2 d1, .slice (some ⟨G, 0, none⟩) 6 d2] 25)) ⟨some ⟨R, 0, none⟩, d1, some ⟨G, 0, none⟩, d2, ⟨twoG.rules.set 0 ⟨⟨#[65]⟩, 1⟩, twoG.nodes⟩⟩ := GP.Ok.chg0 (w := (w5.setCell ⟨R, 1, none⟩ (.int .i64 1))) (ok_of (g := ⟨twoG.rules.set 0 ⟨⟨#[65]⟩, 1⟩, twoG.nodes⟩) HX.out.2.2.2.2.1 (HP.out.2.2.1 1).1 (HV.out.2.2.chg (HP.out.2.2.1 1).2 (fun k hk => by simp only [List.mem_singleton] at hk; subst hk; exact ⟨.of_cells HC.out.1 (by decide), .of_cells HC.out.1 (by decide)⟩)) (by decide +kernel) (by decide +kernel)) ((Chg.refl [] _).alloc _)
        have hcT := (Chg.refl [] ((w5.setCell ⟨R, 1, none⟩ (.int .i64 1)).alloc (.cells #[.slice (some ⟨R, 0, none⟩) 2 d1, .slice (some ⟨G, 0, none⟩) 6 d2] 25))).alloc (.cells #[.slice (some ⟨R, 0, none⟩) 2 d1, .slice (some ⟨G, 0, none⟩) 6 d2] 25)
        have hcQ := hZ.tr hcT
        have hG2 := HQ.out.1.chg0 hcQ
        have hP2 := hP.chg0 hcT
        have hnew := cells_at (w := (((w5.setCell ⟨R, 1, none⟩ (.int .i64 1)).alloc (.cells #[.slice (some ⟨R, 0, none⟩) 2 d1, .slice (some ⟨G, 0, none⟩) 6 d2] 25))).alloc (.cells #[.slice (some ⟨R, 0, none⟩) 2 d1, .slice (some ⟨G, 0, none⟩) 6 d2] 25)) (heap_alloc_same _ _)
        have hszZ : (((w5.setCell ⟨R, 1, none⟩ (.int .i64 1)).alloc (.cells #[.slice (some ⟨R, 0, none⟩) 2 d1, .slice (some ⟨G, 0, none⟩) 6 d2] 25))).heap.size = w5.heap.size + 1 := by simp [World.setCell]
        rw [hszZ] at hnew
        have h1n : ∀ u ∈ [Value.slice (some ⟨R, 0, none⟩) 2 d1, Value.slice (some ⟨G, 0, none⟩) 6 d2], u.oneCell' = true := by simp [Value.oneCell']
        have h2n : 9 + 3 + 1 ≤ maxLen ∧ (9 + 3 + 1) * 48 ≤ 140737488355328 := by simp only [maxLen]; omega
        have hbn : B ≤ ((((w5.setCell ⟨R, 1, none⟩ (.int .i64 1)).alloc (.cells #[.slice (some ⟨R, 0, none⟩) 2 d1, .slice (some ⟨G, 0, none⟩) 6 d2] 25))).alloc (.cells #[.slice (some ⟨R, 0, none⟩) 2 d1, .slice (some ⟨G, 0, none⟩) 6 d2] 25)).heap.size := Nat.le_trans hBq hcQ.size
        have HA := Lib.hid (And.intro hG2.row (And.intro hnew (And.intro h1n (And.intro h2n (And.intro hbn (And.intro hG2 (And.intro hP2 hcQ)))))))
        clear hcT hcQ hG2 hP2 hnew hszZ h1n h2n hbn hP hZ
        go_wp2_with (at_builtin; refine wpList_append_own_at _ rfl _ _ 102 rfl B 25 g0 _ 2 48 Try.underlying102 hg0 hx0 hx1 hx2 rfl (by decide) (.slice la (9 + 3) lc) (9 + 3) (gpCells L) rfl HA.out.1 ⟨w5.heap.size + 1, 0, none⟩ 1 1 [Value.slice (some ⟨R, 0, none⟩) 2 d1, Value.slice (some ⟨G, 0, none⟩) 6 d2] rfl rfl HA.out.2.1 HA.out.2.2.1 HA.out.2.2.2.1.1 HA.out.2.2.2.1.2 HA.out.2.2.2.2.1 ?_; intro v' w9 hr9 hg9 hn9 hb9; obtain ⟨a9, c9, rfl⟩ := ownsRow_slice hr9; have HW := Lib.hid (And.intro hr9 hg9); clear hr9 hg9 hn9 hb9)
        go_roundg (12 - (9 + 1))
        case measure => omega
        case rel =>
          obtain ⟨q1, q2⟩ := HA.out.2.2.2.2.2.1.snoc HA.out.2.2.2.2.2.2.1 HW.out.1 HW.out.2
          obtain ⟨q3, q4⟩ := HA.out.2.2.2.2.2.1.others HW.out.2
          have q5 := HA.out.2.2.2.2.2.2.2
          exact ⟨9 + 1, a9, c9, rfl, by omega, rfl, by go_num, Lib.hid ⟨_, q1, q4 _ _ hTE (q5.heap HQ.out.2.1 (by simp)), q3 _ (HQ.out.2.2.1.chg0 q5), q2 B (Nat.le_refl _) w (HQ.out.2.2.2.tr q5) hwB⟩⟩
      · skip
        have hZ : Chg [] wq ((w5.setCell ⟨K, 1, none⟩ (.int .i64 4611686018427387904)).alloc (.cells #[.slice (some ⟨R, 0, none⟩) 2 d1, .slice (some ⟨G, 0, none⟩) 6 d2] 25)) := (HV.out.1.trans (HP.out.2.2.2.2.1 4611686018427387904).2 (fun j hj => .inr (by simp at hj; omega))).alloc _
        have hP : GP.Ok ((w5.setCell ⟨K, 1, none⟩ (.int .i64 4611686018427387904)).alloc (.cells #[.slice (some ⟨R, 0, none⟩) 2 d1, .slice (some ⟨G, 0, none⟩) 6 d2] 25)) ⟨some ⟨R, 0, none⟩, d1, some ⟨G, 0, none⟩, d2, ⟨twoG.rules, twoG.nodes.set 0 (twoG.nodes[0].setKid 1 4611686018427387904)⟩⟩ := GP.Ok.chg0 (w := (w5.setCell ⟨K, 1, none⟩ (.int .i64 4611686018427387904))) (ok_of (g := ⟨twoG.rules, twoG.nodes.set 0 (twoG.nodes[0].setKid 1 4611686018427387904)⟩) (set_kid_map HX.out.2.2.2.2.1 (by have := HX.out.2.2.2.2.2; omega) (by decide) 1 4611686018427387904) ((HP.out.2.2.2.2.1 4611686018427387904).2.rowOf HV.out.2.1 (fun k hk => by simp only [List.mem_singleton] at hk; subst hk; exact HKN.out)) (HP.out.2.2.2.2.1 4611686018427387904).1 (by decide +kernel) (by decide +kernel)) ((Chg.refl [] _).alloc _)
        have hcT := (Chg.refl [] ((w5.setCell ⟨K, 1, none⟩ (.int .i64 4611686018427387904)).alloc (.cells #[.slice (some ⟨R, 0, none⟩) 2 d1, .slice (some ⟨G, 0, none⟩) 6 d2] 25))).alloc (.cells #[.slice (some ⟨R, 0, none⟩) 2 d1, .slice (some ⟨G, 0, none⟩) 6 d2] 25)
        have hcQ := hZ.tr hcT
        have hG2 := HQ.out.1.chg0 hcQ
        have hP2 := hP.chg0 hcT
        have hnew := cells_at (w := (((w5.setCell ⟨K, 1, none⟩ (.int .i64 4611686018427387904)).alloc (.cells #[.slice (some ⟨R, 0, none⟩) 2 d1, .slice (some ⟨G, 0, none⟩) 6 d2] 25))).alloc (.cells #[.slice (some ⟨R, 0, none⟩) 2 d1, .slice (some ⟨G, 0, none⟩) 6 d2] 25)) (heap_alloc_same _ _)
        have hszZ : (((w5.setCell ⟨K, 1, none⟩ (.int .i64 4611686018427387904)).alloc (.cells #[.slice (some ⟨R, 0, none⟩) 2 d1, .slice (some ⟨G, 0, none⟩) 6 d2] 25))).heap.size = w5.heap.size + 1 := by simp [World.setCell]
        rw [hszZ] at hnew
        have h1n : ∀ u ∈ [Value.slice (some ⟨R, 0, none⟩) 2 d1, Value.slice (some ⟨G, 0, none⟩) 6 d2], u.oneCell' = true := by simp [Value.oneCell']
        have h2n : 10 + 3 + 1 ≤ maxLen ∧ (10 + 3 + 1) * 48 ≤ 140737488355328 := by simp only [maxLen]; omega
        have hbn : B ≤ ((((w5.setCell ⟨K, 1, none⟩ (.int .i64 4611686018427387904)).alloc (.cells #[.slice (some ⟨R, 0, none⟩) 2 d1, .slice (some ⟨G, 0, none⟩) 6 d2] 25))).alloc (.cells #[.slice (some ⟨R, 0, none⟩) 2 d1, .slice (some ⟨G, 0, none⟩) 6 d2] 25)).heap.size := Nat.le_trans hBq hcQ.size
        have HA := Lib.hid (And.intro hG2.row (And.intro hnew (And.intro h1n (And.intro h2n (And.intro hbn (And.intro hG2 (And.intro hP2 hcQ)))))))
        clear hcT hcQ hG2 hP2 hnew hszZ h1n h2n hbn hP hZ
        go_wp2_with (at_builtin; refine wpList_append_own_at _ rfl _ _ 102 rfl B 25 g0 _ 2 48 Try.underlying102 hg0 hx0 hx1 hx2 rfl (by decide) (.slice la (10 + 3) lc) (10 + 3) (gpCells L) rfl HA.out.1 ⟨w5.heap.size + 1, 0, none⟩ 1 1 [Value.slice (some ⟨R, 0, none⟩) 2 d1, Value.slice (some ⟨G, 0, none⟩) 6 d2] rfl rfl HA.out.2.1 HA.out.2.2.1 HA.out.2.2.2.1.1 HA.out.2.2.2.1.2 HA.out.2.2.2.2.1 ?_; intro v' w9 hr9 hg9 hn9 hb9; obtain ⟨a9, c9, rfl⟩ := ownsRow_slice hr9; have HW := Lib.hid (And.intro hr9 hg9); clear hr9 hg9 hn9 hb9)
        go_roundg (12 - (10 + 1))
        case measure => omega
        case rel =>
          obtain ⟨q1, q2⟩ := HA.out.2.2.2.2.2.1.snoc HA.out.2.2.2.2.2.2.1 HW.out.1 HW.out.2
          obtain ⟨q3, q4⟩ := HA.out.2.2.2.2.2.1.others HW.out.2
          have q5 := HA.out.2.2.2.2.2.2.2
          exact ⟨10 + 1, a9, c9, rfl, by omega, rfl, by go_num, Lib.hid ⟨_, q1, q4 _ _ hTE (q5.heap HQ.out.2.1 (by simp)), q3 _ (HQ.out.2.2.1.chg0 q5), q2 B (Nat.le_refl _) w (HQ.out.2.2.2.tr q5) hwB⟩⟩
      · skip
        have hZ : Chg [] wq ((w5.setCell ⟨R, 2, none⟩ (.string ⟨#[57]⟩)).alloc (.cells #[.slice (some ⟨R, 0, none⟩) 2 d1, .slice (some ⟨G, 0, none⟩) 6 d2] 25)) := (HV.out.1.trans (HP.out.1 ⟨#[57]⟩).2 (fun j hj => .inr (by simp at hj; omega))).alloc _
        have hP : GP.Ok ((w5.setCell ⟨R, 2, none⟩ (.string ⟨#[57]⟩)).alloc (.cells #[.slice (some ⟨R, 0, none⟩) 2 d1, .slice (some ⟨G, 0, none⟩) 6 d2] 25)) ⟨some ⟨R, 0, none⟩, d1, some ⟨G, 0, none⟩, d2, ⟨twoG.rules.set 1 ⟨⟨#[57]⟩, 5⟩, twoG.nodes⟩⟩ := GP.Ok.chg0 (w := (w5.setCell ⟨R, 2, none⟩ (.string ⟨#[57]⟩))) (ok_of (g := ⟨twoG.rules.set 1 ⟨⟨#[57]⟩, 5⟩, twoG.nodes⟩) HX.out.2.2.2.2.1 (HP.out.1 ⟨#[57]⟩).1 (HV.out.2.2.chg (HP.out.1 ⟨#[57]⟩).2 (fun k hk => by simp only [List.mem_singleton] at hk; subst hk; exact ⟨.of_cells HC.out.1 (by decide), .of_cells HC.out.1 (by decide)⟩)) (by decide +kernel) (by decide +kernel)) ((Chg.refl [] _).alloc _)
        have hcT := (Chg.refl [] ((w5.setCell ⟨R, 2, none⟩ (.string ⟨#[57]⟩)).alloc (.cells #[.slice (some ⟨R, 0, none⟩) 2 d1, .slice (some ⟨G, 0, none⟩) 6 d2] 25))).alloc (.cells #[.slice (some ⟨R, 0, none⟩) 2 d1, .slice (some ⟨G, 0, none⟩) 6 d2] 25)
        have hcQ := hZ.tr hcT
        have hG2 := HQ.out.1.chg0 hcQ
        have hP2 := hP.chg0 hcT
        have hnew := cells_at (w := (((w5.setCell ⟨R, 2, none⟩ (.string ⟨#[57]⟩)).alloc (.cells #[.slice (some ⟨R, 0, none⟩) 2 d1, .slice (some ⟨G, 0, none⟩) 6 d2] 25))).alloc (.cells #[.slice (some ⟨R, 0, none⟩) 2 d1, .slice (some ⟨G, 0, none⟩) 6 d2] 25)) (heap_alloc_same _ _)
        have hszZ : (((w5.setCell ⟨R, 2, none⟩ (.string ⟨#[57]⟩)).alloc (.cells #[.slice (some ⟨R, 0, none⟩) 2 d1, .slice (some ⟨G, 0, none⟩) 6 d2] 25))).heap.size = w5.heap.size + 1 := by simp [World.setCell]
        rw [hszZ] at hnew
        have h1n : ∀ u ∈ [Value.slice (some ⟨R, 0, none⟩) 2 d1, Value.slice (some ⟨G, 0, none⟩) 6 d2], u.oneCell' = true := by simp [Value.oneCell']
        have h2n : 11 + 3 + 1 ≤ maxLen ∧ (11 + 3 + 1) * 48 ≤ 140737488355328 := by simp only [maxLen]; omega
        have hbn : B ≤ ((((w5.setCell ⟨R, 2, none⟩ (.string ⟨#[57]⟩)).alloc (.cells #[.slice (some ⟨R, 0, none⟩) 2 d1, .slice (some ⟨G, 0, none⟩) 6 d2] 25))).alloc (.cells #[.slice (some ⟨R, 0, none⟩) 2 d1, .slice (some ⟨G, 0, none⟩) 6 d2] 25)).heap.size := Nat.le_trans hBq hcQ.size
        have HA := Lib.hid (And.intro hG2.row (And.intro hnew (And.intro h1n (And.intro h2n (And.intro hbn (And.intro hG2 (And.intro hP2 hcQ)))))))
        clear hcT hcQ hG2 hP2 hnew hszZ h1n h2n hbn hP hZ
        go_wp2_with (at_builtin; refine wpList_append_own_at _ rfl _ _ 102 rfl B 25 g0 _ 2 48 Try.underlying102 hg0 hx0 hx1 hx2 rfl (by decide) (.slice la (11 + 3) lc) (11 + 3) (gpCells L) rfl HA.out.1 ⟨w5.heap.size + 1, 0, none⟩ 1 1 [Value.slice (some ⟨R, 0, none⟩) 2 d1, Value.slice (some ⟨G, 0, none⟩) 6 d2] rfl rfl HA.out.2.1 HA.out.2.2.1 HA.out.2.2.2.1.1 HA.out.2.2.2.1.2 HA.out.2.2.2.2.1 ?_; intro v' w9 hr9 hg9 hn9 hb9; obtain ⟨a9, c9, rfl⟩ := ownsRow_slice hr9; have HW := Lib.hid (And.intro hr9 hg9); clear hr9 hg9 hn9 hb9)
        go_roundg (12 - (11 + 1))
        case measure => omega
        case rel =>
          obtain ⟨q1, q2⟩ := HA.out.2.2.2.2.2.1.snoc HA.out.2.2.2.2.2.2.1 HW.out.1 HW.out.2
          obtain ⟨q3, q4⟩ := HA.out.2.2.2.2.2.1.others HW.out.2
          have q5 := HA.out.2.2.2.2.2.2.2
          exact ⟨11 + 1, a9, c9, rfl, by omega, rfl, by go_num, Lib.hid ⟨_, q1, q4 _ _ hTE (q5.heap HQ.out.2.1 (by simp)), q3 _ (HQ.out.2.2.1.chg0 q5), q2 B (Nat.le_refl _) w (HQ.out.2.2.2.tr q5) hwB⟩⟩
    · obtain rfl : k = 12 := by omega
      obtain ⟨L, hrow, hbox, hok, hcw⟩ := hin.out
      have hkv : ¬ (((12 : Nat) : Int) < 12) := by decide
      generalize ((12 : Nat) : Int) = kv at hkv ⊢
      have HQ := Lib.hid (And.intro hrow (And.intro hbox hcw))
      clear hrow hbox hok hcw hin
      go_wp2_with fail
      go_loopg [3, 6] 5 (fun dd lv iv wr => ∃ (q : Nat) (a : Option Addr) (c : Nat), dd = 5 - q ∧ q ≤ 5 ∧ lv = .slice a (q + 15) c ∧ iv = .int .i64 ((q : Int) + 14) ∧ Hid (∃ L, GRow B wr a (q + 15) c L ∧ wr.heap[T]? = some (.cells #[.slice a5 2 c5, .slice a6 6 c6] 25 (0, 0)) ∧ Chg [] w wr))
      case atStart => exact ⟨0, _, _, rfl, Nat.zero_le _, rfl, rfl, Lib.hid ⟨_, HQ.out.1, HQ.out.2.1, HQ.out.2.2⟩⟩
      case round =>
        obtain ⟨q, la, lc, rfl, hq, rfl, rfl, hin⟩ := hrel
        obtain ⟨wq, rfl⟩ : ∃ wq, wq = wr := ⟨_, rfl⟩
        by_cases hlt : q < 5
        · obtain ⟨L, hrow, hbox, hcw⟩ := hin.out
          have hTq := lt_of_block hbox
          have hBq : B ≤ wq.heap.size := hrow.base_le (by omega)
          have HQ := Lib.hid (And.intro hrow (And.intro hbox hcw))
          clear hrow hbox hcw hin
          go_wp2_with fail
          have hM0 : MakeG wq (wq.heap.size + 1) T (.slice a5 2 c5) (.slice a6 6 c6) (some ⟨wq.heap.size, 0, none⟩) 1 1 none 0 0 [⟨⟨#[65]⟩, 0⟩] [] ((wq.alloc (.cells #[.string ⟨#[65]⟩, .int .i64 0] 46)).alloc (.cells #[.slice (some ⟨wq.heap.size, 0, none⟩) 1 1, .slice none 0 0] 25)) := by
            have h0 := (Chg.refl [] (wq.alloc (.cells #[.string ⟨#[65]⟩, .int .i64 0] 46))).alloc (.cells #[.slice (some ⟨wq.heap.size, 0, none⟩) 1 1, .slice none 0 0] 25)
            have h1 := ((Chg.refl [] wq).alloc (.cells #[.string ⟨#[65]⟩, .int .i64 0] 46)).tr h0
            have h2 := heap_alloc_same (wq.alloc (.cells #[.string ⟨#[65]⟩, .int .i64 0] 46)) (.cells #[.slice (some ⟨wq.heap.size, 0, none⟩) 1 1, .slice none 0 0] 25)
            rw [World.size_alloc] at h2
            exact ⟨rfl, rfl, h2, h1.heap HQ.out.2.1 (by simp), ⟨rfl, .inr ⟨wq.heap.size, 1, _, rfl, Nat.le_refl _, heap_alloc_lt (heap_alloc_same _ _) _, Nat.le_refl _, by decide, rfl, rfl⟩⟩, .nil _ _, h1⟩
          have HM0 := Lib.hid hM0
          rw [show decide ((q : Int) + 14 < 19) = true from decide_eq_true (by omega)]
          clear hM0
          go_loopg [8] (q + 13) (fun dd iv wr => ∃ m : Nat, dd = q + 13 - m ∧ m ≤ q + 13 ∧ iv = .int .i64 ((m : Int) + 1) ∧ Hid (∃ (a : Option Addr) (c : Nat) (M : List Cp), M.map (·.1) = optL m ∧ MakeG wq (wq.heap.size + 1) T (.slice a5 2 c5) (.slice a6 6 c6) (some ⟨wq.heap.size, 0, none⟩) 1 1 a m c [⟨⟨#[65]⟩, 0⟩] M wr))
          case atStart => exact ⟨0, rfl, Nat.zero_le _, by go_num, Lib.hid ⟨none, 0, [], rfl, HM0.out⟩⟩
          case round =>
            obtain ⟨m, rfl, hm, rfl, hin⟩ := hrel
            obtain ⟨wr, rfl⟩ : ∃ wz, wz = wr := ⟨_, rfl⟩
            obtain ⟨a, c, M, hM, hMG⟩ := hin.out
            obtain ⟨x0, x1⟩ := cells2 hMG.box
            have hT7 := lt_of_block hMG.box
            by_cases hml : m < q + 13
            · have hMX := hMG.chg0 (((Chg.refl [] wr).alloc (.cells #[.int .i64 ((m : Int) + 1)] 3)).alloc (.cells #[.int .i64 10, .int .u64 0, .int .u64 0, .int .u64 0, .int .u64 0, .string ⟨#[]⟩, .int .i64 0, .int .i64 0, .slice (some ⟨wr.heap.size, 0, none⟩) 1 1] 32))
              have hK := heap_alloc_lt (heap_alloc_same wr (.cells #[.int .i64 ((m : Int) + 1)] 3)) (.cells #[.int .i64 10, .int .u64 0, .int .u64 0, .int .u64 0, .int .u64 0, .string ⟨#[]⟩, .int .i64 0, .int .i64 0, .slice (some ⟨wr.heap.size, 0, none⟩) 1 1] 32)
              have hnewN := cells_at (heap_alloc_same (wr.alloc (.cells #[.int .i64 ((m : Int) + 1)] 3)) (.cells #[.int .i64 10, .int .u64 0, .int .u64 0, .int .u64 0, .int .u64 0, .string ⟨#[]⟩, .int .i64 0, .int .i64 0, .slice (some ⟨wr.heap.size, 0, none⟩) 1 1] 32))
              rw [World.size_alloc] at hnewN
              have hrowN := hMX.nodes.nodes
              rw [← hMX.ll] at hrowN
              have h1N : ∀ u ∈ (#[.int .i64 10, .int .u64 0, .int .u64 0, .int .u64 0, .int .u64 0, .string ⟨#[]⟩, .int .i64 0, .int .i64 0, .slice (some ⟨wr.heap.size, 0, none⟩) 1 1] : Array Value).toList, u.oneCell' = true := by simp [Value.oneCell']
              have h2N : m + 1 ≤ maxLen ∧ (m + 1) * 96 ≤ 140737488355328 := by simp only [maxLen]; omega
              have HD := Lib.hid (And.intro hMX (And.intro hrowN (And.intro hnewN (And.intro h1N (And.intro h2N (And.intro hMX.chg.size (And.intro hK (And.intro hM hMG))))))))
              clear hMX hrowN hnewN h1N h2N hK hM hMG hin
              go_wp2_with (at_builtin; refine wpList_append_own_at _ rfl _ _ 23 rfl wq.heap.size 32 j0 _ 9 96 Try.underlying23 hj0 hy0 hy1 hy2 rfl (by decide) (.slice a m c) m (nodesCells M) rfl HD.out.2.1 ⟨wr.heap.size + 1, 0, none⟩ 1 1 (#[.int .i64 10, .int .u64 0, .int .u64 0, .int .u64 0, .int .u64 0, .string ⟨#[]⟩, .int .i64 0, .int .i64 0, .slice (some ⟨wr.heap.size, 0, none⟩) 1 1] : Array Value).toList rfl rfl HD.out.2.2.1 HD.out.2.2.2.1 HD.out.2.2.2.2.1.1 HD.out.2.2.2.2.1.2 HD.out.2.2.2.2.2.1 ?_; intro v' w8 hr8 hg8 hn8 hb8; obtain ⟨a8, c8, rfl⟩ := ownsRow_slice hr8; have hMj := HD.out.1.join (M := [(optN ((m : Int) + 1), some ⟨wr.heap.size, 0, none⟩, 1)]) (ml := 1) (by omega) hTq (by intro p hp; simp only [List.mem_singleton] at hp; subst hp; exact fresh_one (by omega) HD.out.2.2.2.2.2.2.1) (List.pairwise_singleton _ _) (by intro r hr p hp i j hi hj; simp only [List.mem_singleton] at hp; subst hp; have h1 := (row_beyond (HD.out.2.2.2.2.2.2.2.2.nodes.kids r hr) hi).2.1; have h2 : j = wr.heap.size := (by cases hj; rfl); omega) rfl (by rw [nodesCells_one]; exact hr8) hg8; have q3 := (cells2 hMj.1).2; have f3 := free_of_cells hMj.1 1; have HJ := Lib.hid hMj.2; clear hr8 hg8 hn8 hb8 hMj)
              go_roundg (q + 13 - (m + 1))
              case measure => omega
              case rel => exact ⟨m + 1, rfl, by omega, by go_num, Lib.hid ⟨a8, c8, _, by rw [List.map_append, HD.out.2.2.2.2.2.2.2.1, optL_succ]; rfl, HJ.out⟩⟩
            · have hMX := hMG.chg0 ((Chg.refl [] wr).alloc (.cells #[.int .i64 2, .int .u64 0, .int .u64 0, .int .u64 0, .int .u64 0, .string ⟨#[]⟩, .int .i64 0, .int .i64 0, .slice none 0 0] 32))
              have hnewN := cells_at (heap_alloc_same wr (.cells #[.int .i64 2, .int .u64 0, .int .u64 0, .int .u64 0, .int .u64 0, .string ⟨#[]⟩, .int .i64 0, .int .i64 0, .slice none 0 0] 32))
              have hrowN := hMX.nodes.nodes
              rw [← hMX.ll] at hrowN
              have h1N : ∀ u ∈ (#[.int .i64 2, .int .u64 0, .int .u64 0, .int .u64 0, .int .u64 0, .string ⟨#[]⟩, .int .i64 0, .int .i64 0, .slice none 0 0] : Array Value).toList, u.oneCell' = true := by simp [Value.oneCell']
              have h2N : m + 1 ≤ maxLen ∧ (m + 1) * 96 ≤ 140737488355328 := by simp only [maxLen]; omega
              have HD := Lib.hid (And.intro hMX (And.intro hrowN (And.intro hnewN (And.intro h1N (And.intro h2N (And.intro hMX.chg.size (And.intro hM hMG)))))))
              clear hMX hrowN hnewN h1N h2N hM hMG hin
              go_wp2_with (first
                | (at_builtin; refine wpList_append_own_at _ rfl _ _ 23 rfl wq.heap.size 32 j0 _ 9 96 Try.underlying23 hj0 hy0 hy1 hy2 rfl (by decide) (.slice a m c) m (nodesCells M) rfl HD.out.2.1 ⟨wr.heap.size, 0, none⟩ 1 1 (#[.int .i64 2, .int .u64 0, .int .u64 0, .int .u64 0, .int .u64 0, .string ⟨#[]⟩, .int .i64 0, .int .i64 0, .slice none 0 0] : Array Value).toList rfl rfl HD.out.2.2.1 HD.out.2.2.2.1 HD.out.2.2.2.2.1.1 HD.out.2.2.2.2.1.2 HD.out.2.2.2.2.2.1 ?_; intro v' w8 hr8 hg8 hn8 hb8; obtain ⟨a8, c8, rfl⟩ := ownsRow_slice hr8; have hMj := HD.out.1.join (M := [(bareN 2, none, 0)]) (ml := 1) (by omega) hTq (by intro p hp; simp only [List.mem_singleton] at hp; subst hp; exact World.ownsRow_nil _ _ _ _) (List.pairwise_singleton _ _) (by intro r hr p hp i j hi hj; simp only [List.mem_singleton] at hp; subst hp; cases hj) rfl (by rw [nodesCells_one]; exact hr8) hg8; have q3 := (cells2 hMj.1).2; have f3 := free_of_cells hMj.1 1; obtain ⟨q6, q7⟩ := cells2 hMj.2.box; have HJ := Lib.hid hMj.2; clear hr8 hg8 hn8 hb8 hMj)
                | (at_builtin; have hcT := (Chg.refl [] (w8.setCell ⟨wq.heap.size + 1, 1, none⟩ (.slice a8 (m + 1) c8))).alloc (.cells #[.slice (some ⟨wq.heap.size, 0, none⟩) 1 1, .slice a8 (m + 1) c8] 25); have hcQ := HJ.out.chg.tr hcT; have hG2 := HQ.out.1.chg0 hcQ; have hL2 : List.map (fun p : Cp => p.1) (M ++ [(bareN 2, none, 0)]) = optL m ++ [bareN 2] := (by rw [List.map_append, HD.out.2.2.2.2.2.2.1]; rfl); have hP2 : GP.Ok ((w8.setCell ⟨wq.heap.size + 1, 1, none⟩ (.slice a8 (m + 1) c8)).alloc (.cells #[.slice (some ⟨wq.heap.size, 0, none⟩) 1 1, .slice a8 (m + 1) c8] 25)) ⟨some ⟨wq.heap.size, 0, none⟩, 1, a8, c8, ⟨[⟨⟨#[65]⟩, 0⟩], optL m ++ [bareN 2]⟩⟩ := GP.Ok.chg0 ⟨_, hL2, row_base HJ.out.rules (Nat.zero_le _), HJ.out.nodes.below (Nat.zero_le _), (opt_wf (by omega)).1, (opt_wf (by omega)).2⟩ hcT; have hnew := cells_at (heap_alloc_same (w8.setCell ⟨wq.heap.size + 1, 1, none⟩ (.slice a8 (m + 1) c8)) (.cells #[.slice (some ⟨wq.heap.size, 0, none⟩) 1 1, .slice a8 (m + 1) c8] 25)); rw [show (w8.setCell ⟨wq.heap.size + 1, 1, none⟩ (.slice a8 (m + 1) c8)).heap.size = w8.heap.size by simp [World.setCell]] at hnew; have h1n : ∀ u ∈ [Value.slice (some ⟨wq.heap.size, 0, none⟩) 1 1, Value.slice a8 (m + 1) c8], u.oneCell' = true := (by simp [Value.oneCell']); have h2n : q + 15 + 1 ≤ maxLen ∧ (q + 15 + 1) * 48 ≤ 140737488355328 := (by simp only [maxLen]; omega); have HA := Lib.hid (And.intro hG2.row (And.intro hnew (And.intro h1n (And.intro h2n (And.intro (Nat.le_trans hBq hcQ.size) (And.intro hG2 (And.intro hP2 hcQ))))))); clear hcT hcQ hG2 hP2 hnew h1n h2n hL2;
                    refine wpList_append_own_at _ rfl _ _ 102 rfl B 25 g0 _ 2 48 Try.underlying102 hg0 hx0 hx1 hx2 rfl (by decide) (.slice la (q + 15) lc) (q + 15) (gpCells L) rfl HA.out.1 ⟨w8.heap.size, 0, none⟩ 1 1 [Value.slice (some ⟨wq.heap.size, 0, none⟩) 1 1, Value.slice a8 (m + 1) c8] rfl rfl HA.out.2.1 HA.out.2.2.1 HA.out.2.2.2.1.1 HA.out.2.2.2.1.2 HA.out.2.2.2.2.1 ?_; intro v' w9 hr9 hg9 hn9 hb9; obtain ⟨a9, c9, rfl⟩ := ownsRow_slice hr9; have HW := Lib.hid (And.intro hr9 hg9); clear hr9 hg9 hn9 hb9))
              go_roundg (5 - (q + 1))
              case measure => omega
              case rel =>
                obtain ⟨q1, q2⟩ := HA.out.2.2.2.2.2.1.snoc HA.out.2.2.2.2.2.2.1 (by rw [show GP.cells ⟨some ⟨wq.heap.size, 0, none⟩, 1, a8, c8, ⟨[⟨⟨#[65]⟩, 0⟩], optL m ++ [bareN 2]⟩⟩ = [Value.slice (some ⟨wq.heap.size, 0, none⟩) 1 1, Value.slice a8 (m + 1) c8] by simp [GP.cells, optL]]; exact HW.out.1) HW.out.2
                obtain ⟨q3, q4⟩ := HA.out.2.2.2.2.2.1.others HW.out.2
                have q5 := HA.out.2.2.2.2.2.2.2
                exact ⟨q + 1, a9, c9, rfl, by omega, by rw [show q + 15 + 1 = q + 1 + 15 by omega], by go_num, Lib.hid ⟨_, by rw [show q + 1 + 15 = q + 15 + 1 by omega]; exact q1, q4 _ _ hTE (q5.heap HQ.out.2.1 (by simp)), q2 B (Nat.le_refl _) w (HQ.out.2.2.tr q5) hwB⟩⟩
        · obtain rfl : q = 5 := by omega
          obtain ⟨L, hrow, hbox, hcw⟩ := hin.out
          have hqv : ¬ (((5 : Nat) : Int) + 14 < 19) := by decide
          generalize ((5 : Nat) : Int) + 14 = qv at hqv ⊢
          obtain ⟨wV, rfl⟩ : ∃ wV, wV = wq := ⟨_, rfl⟩
          have HV := Lib.hid (And.intro hrow hcw)
          clear hrow hbox hcw hin
          go_wp2_with fail
          go_loopg [9] 20 (fun dd iv wr => ∃ i : Nat, dd = 20 - i ∧ i ≤ 20 ∧ iv = .int .i64 i ∧ Hid (Chg [] wV wr))
          case atStart => exact ⟨0, rfl, Nat.zero_le _, rfl, Lib.hid (Chg.refl _ _)⟩
          case round =>
            obtain ⟨i, rfl, hi, rfl, hin⟩ := hrel
            obtain ⟨wq, rfl⟩ : ∃ wq, wq = wr := ⟨_, rfl⟩
            by_cases hil : i < 20
            · obtain ⟨G, u1, m1, e1, u2, m2, e2, gi, rfl, hc0, hc1, hgi, hri⟩ := HV.out.1.at (i := i) hil
              have HI := Lib.hid (And.intro hc0 (And.intro hc1 (And.intro hgi (And.intro hri hin.out))))
              clear hc0 hc1 hgi hri hin
              go_wp2_with fail
              rw [show decide ((i : Int) < 20) = true from decide_eq_true (by omega)]
              go_loopg [10] 8 (fun dd iv wr => ∃ m : Nat, dd = 8 - m ∧ m ≤ 8 ∧ iv = .int .i64 ((m : Int) - 1) ∧ Hid (Chg [] wV wr))
              case atStart => exact ⟨0, rfl, Nat.zero_le _, rfl, Lib.hid HI.out.2.2.2.2⟩
              case round =>
                obtain ⟨m, rfl, hm, rfl, hin⟩ := hrel
                obtain ⟨wr, rfl⟩ : ∃ wz, wz = wr := ⟨_, rfl⟩
                have x0 := hin.out.cell HI.out.1 (by simp)
                have x1 := hin.out.cell HI.out.2.1 (by simp)
                by_cases hml : m < 8
                · go_wp2_with fail
                  refine (gramTells_any wr u1 m1 e1 u2 m2 e2 gi (HI.out.2.2.1.keep hin.out.kp) HI.out.2.2.2.1 ⟨#[66]⟩ (by decide) (bareN 0) none 0 0 rfl (by omega) (by decide) 0 ((m : Int) - 1) (by constructor <;> omega) (by decide)).mono ?_
                  rintro e ws ⟨rfl, hcs⟩
                  have HS := Lib.hid (hin.out.tr hcs)
                  clear hcs x0 x1
                  go_wp2_with fail
                  go_roundg (8 - (m + 1))
                  case measure => omega
                  case rel => exact ⟨m + 1, rfl, by omega, by go_num, HS⟩
                · obtain rfl : m = 8 := by omega
                  go_wp2_with fail
                  obtain ⟨j, hj⟩ : ∃ j : Nat, j = (i + 1) % 20 := ⟨_, rfl⟩
                  have hj20 : j < 20 := by omega
                  have hmod : Int.tmod ((i : Int) + 1) 20 = (j : Int) := by rw [Int.tmod_eq_emod_of_nonneg (by omega)]; omega
                  obtain ⟨G', v1, p1, s1, v2, p2, s2, gj, hG', hd0, hd1, hgj, hrj⟩ := HV.out.1.at (i := j) hj20
                  obtain rfl : G = G' := by cases hG'; rfl
                  have y0 := hin.out.cell hd0 (by simp)
                  have y1 := hin.out.cell hd1 (by simp)
                  have cA := calls_rg (w := wr) (fun w1 h1 => gramSameLaw_any w1 u1 m1 e1 u2 m2 e2 gi (HI.out.2.2.1.keep (hin.out.tr h1).kp) HI.out.2.2.2.1 v1 p1 s1 v2 p2 s2 gj (hgj.keep (hin.out.tr h1).kp) hrj)
                  have cB := calls_rg (w := wr) (fun w1 h1 => gramSameLaw_any w1 u1 m1 e1 u2 m2 e2 gi (HI.out.2.2.1.keep (hin.out.tr h1).kp) HI.out.2.2.2.1 u1 m1 e1 u2 m2 e2 gi (HI.out.2.2.1.keep (hin.out.tr h1).kp) HI.out.2.2.2.1)
                  have kx0 := cell_rg x0
                  have kx1 := cell_rg x1
                  have ky0 := cell_rg y0
                  have ky1 := cell_rg y1
                  have hw1 : IntKind.i64.wrap ((i : Int) + 1) = (i : Int) + 1 := IntWalk.i64_in _ (by omega)
                  clear hj hG' hd0 hd1 hgj hrj x0 x1 y0 y1
                  refine wp_region_quiet_below (by kernel_rfl) (by kernel_rfl) ?_
                  repeat (go_big_quiet_step (first | (with_reducible exact cA _ _) | (with_reducible exact cB _ _)))
                  refine wpQuiet_nil ?_
                  intro w7 hw7
                  have HW := Lib.hid (hin.out.tr (chg_of_rg hw7))
                  clear hw7 cA cB kx0 kx1 ky0 ky1
                  go_wp2_with fail
                  go_roundg (20 - (i + 1))
                  case measure => omega
                  case rel => exact ⟨i + 1, rfl, by omega, by go_num, HW⟩
            · obtain rfl : i = 20 := by omega
              go_wp2_with fail
              go_ret
              exact ⟨rfl, HV.out.2.tr hin.out⟩
end Go.Proofs.Ytibgfgfmljhimaa

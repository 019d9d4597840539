/-
  Package well: a grammar mended.
  Conditions: the grammar reads as data, within the reach, and is small.
-/
import Derived.Test.YtibgfgfmljhimaaGreatWe9WeF
set_option linter.unusedVariables false
set_option linter.unusedSimpArgs false
set_option linter.unnecessarySimpa false
namespace Go.Proofs.YtibgfgfmljhimaaGreat
open Go.RowKit Go.MapKept Go.Shelf

/-- What is told of a grammar mended. -/
def MendP (w : World) (g : Gr) (e : Ending) (w' : World) : Prop :=
  (if rightB g then ∃ b1 d1 b2 d2 L, e = .returned (.tuple #[.agg #[.slice b1 g.rules.length d1, .slice b2 g.nodes.length d2], .bool true]) ∧ L.map (·.1) = mendL g.nodes (idleL g) ∧ OwnG w.heap.size w' b1 d1 b2 d2 L g.rules
   else e = .returned (.tuple #[.agg #[.slice none 0 0, .slice none 0 0], .bool false])) ∧ Chg [] w w'

theorem two_setW {w : World} {b : Nat} {t : TypeId} {u0 u1 : Value} (v0 v1 : Value) (h : w.heap[b]? = some (.cells #[u0, u1] t (0, 0))) :
    ∃ W, W = (w.setCell ⟨b, 0, none⟩ v0).setCell ⟨b, 1, none⟩ v1 ∧ W.heap[b]? = some (.cells #[v0, v1] t (0, 0)) ∧ Chg [b] w W := by
  refine ⟨_, rfl, ?_, ((Chg.refl [b] w).setCell (p := ⟨b, 0, none⟩) (.inl (by simp)) _).setCell (p := ⟨b, 1, none⟩) (.inl (by simp)) _⟩
  simpa using heap_setCell_same (heap_setCell_same h 0 v0) 1 v1
theorem idle_at {g : Gr} {pre : List Int} {x : Int} (h : pre ++ [x] <+: idleL g) : ∃ q : Nat, x = q ∧ q < g.nodes.length := by
  have hm : x ∈ idleL g := h.subset (by simp)
  unfold idleL at hm
  split at hm
  · obtain ⟨q, h1, h2, _⟩ := pickW_mem.1 hm
    exact ⟨q, h1, h2⟩
  · cases hm

section
attribute [local go_sem] Oper.semAt_some
set_option maxRecDepth 100000 in
set_option maxHeartbeats 4000000 in
theorem wellMend_any (w : World) (a1 : Option Addr) (n1 c1 : Nat) (a2 : Option Addr) (n2 c2 : Nat) (g : Gr) (hg : GramAt w a1 n1 c1 a2 n2 c2 g) (hre : Reach g) (hs1 : n1 ≤ 300) (hs2 : n2 ≤ 300) (hk : ∀ x ∈ g.nodes, x.kids.length ≤ 300) :
    Calls Tryz.prog 69 #[.agg #[.slice a1 n1 c1, .slice a2 n2 c2]] w (MendP w g) := by
  unfold MendP
  obtain ⟨r, hr⟩ : ∃ r, r = rightB g := ⟨_, rfl⟩
  rw [← hr]
  have H := Lib.hid (And.intro hg (And.intro hre (And.intro hk hr)))
  clear hg hre hk hr
  refine (callsIn_wide (n := 3)).1 ?_
  refine callsIn_of_wp_marks Tryz.func69 rfl trivial ?_ rfl
  simp only [Tryz.ntmps69, List.size_toArray, List.length_cons, List.length_nil, Nat.reduceAdd, Nat.reduceSub, Array.replicate_succ, Array.replicate_zero, List.push_toArray, List.append_toArray, List.nil_append, List.cons_append]
  refine wpIn_wide.2 ?_
  have hc1 := (((Chg.refl [] w).alloc (.cells #[.slice a1 n1 c1, .slice a2 n2 c2] 25)).alloc (.cells #[.slice none 0 0, .slice none 0 0] 25))
  have hb0 := heap_alloc_lt (heap_alloc_same w (.cells #[.slice a1 n1 c1, .slice a2 n2 c2] 25)) (.cells #[.slice none 0 0, .slice none 0 0] 25)
  have hb1 := heap_alloc_same (w.alloc (.cells #[.slice a1 n1 c1, .slice a2 n2 c2] 25)) (.cells #[.slice none 0 0, .slice none 0 0] 25)
  simp only [World.size_alloc] at hb1
  obtain ⟨x0, x1⟩ := cells2 hb0
  have hR := Right_any _ a1 n1 c1 a2 n2 c2 g (H.out.1.keep hc1.kp)
  rw [← H.out.2.2.2] at hR
  have H1 := Lib.hid (And.intro hc1 (And.intro hb0 hb1))
  clear hc1 hb0 hb1
  go_wp2_with fail
  refine hR.mono ?_
  clear hR
  rintro e w1 ⟨rfl, hc1⟩
  have H1' := Lib.hid (And.intro (H1.out.1.tr hc1) (And.intro (hc1.heap H1.out.2.1 (by simp)) (hc1.heap H1.out.2.2 (by simp))))
  clear hc1 H1 x0 x1
  obtain ⟨x0, x1⟩ := cells2 H1'.out.2.1
  cases r with
  | false =>
    obtain ⟨y0, y1⟩ := cells2 H1'.out.2.2
    have f0 := free_of_cells H1'.out.2.2 0
    have f1 := free_of_cells H1'.out.2.2 1
    go_wp2_with fail
    obtain ⟨w4, e4, z, hch⟩ := two_setW (.slice none 0 0) (.slice none 0 0) H1'.out.2.2
    rw [← e4]
    obtain ⟨q0, q1⟩ := cells2 z
    exact leave_none (v := .tuple #[.agg #[.slice none 0 0, .slice none 0 0], .bool false]) (by simp [results, Tryz.results69, go_sem, q0, q1, lt_of_block z]) ⟨rfl, H1'.out.1.trans hch (fun j hj => .inr (by simp at hj; omega))⟩
  | true =>
    go_wp2_with fail
    refine (Copy_any _ a1 n1 c1 a2 n2 c2 g (H.out.1.keep H1'.out.1.kp) hs1 hs2 H.out.2.2.1).mono ?_
    rintro e w2 ⟨b1, d1, b2, d2, L, rfl, hL, hown, hc2⟩
    have hn0 : 0 < L.length := by
      have h1 := congrArg List.length hL
      rw [List.length_map] at h1
      have := right_posW H.out.2.2.2.symm
      omega
    obtain ⟨G, hG⟩ : ∃ G, b2 = some ⟨G, 0, none⟩ := by
      rcases hown.nodes.2 with ⟨h0, h1⟩ | ⟨G, cap, cur, h0, _⟩
      · omega
      · cases h0; exact ⟨G, rfl⟩
    obtain ⟨hGB, -, -, ⟨cur, hcur⟩, -⟩ := hown.kindPut hn0 hG
    have hlG := lt_of_block hcur
    subst hG
    have hLl : L.length = g.nodes.length := by have h1 := congrArg List.length hL; rwa [List.length_map] at h1
    have hca := (Chg.refl [] w2).alloc (.cells #[.slice b1 g.rules.length d1, .slice (some ⟨G, 0, none⟩) g.nodes.length d2] 25)
    have hbo := heap_alloc_same w2 (.cells #[.slice b1 g.rules.length d1, .slice (some ⟨G, 0, none⟩) g.nodes.length d2] 25)
    have hba := hca.heap (hc2.heap H1'.out.2.1 (by simp)) (by simp)
    have hbb := hca.heap (hc2.heap H1'.out.2.2 (by simp)) (by simp)
    have hown2 := hown.chg0 hca
    clear x0 x1
    obtain ⟨x0, x1⟩ := cells2 hba
    have hcw2 := (H1'.out.1.tr hc2).tr hca
    have hsa : (w2.alloc (.cells #[.slice b1 g.rules.length d1, .slice (some ⟨G, 0, none⟩) g.nodes.length d2] 25)).heap.size = w2.heap.size + 1 := by simp
    have hlo := lt_of_block H1'.out.2.2
    have hw12 := hc2.size
    have H2 := Lib.hid (And.intro hcw2 (And.intro hbo (And.intro hbb (And.intro hown2 (And.intro hL hLl)))))
    have HGB := Lib.hid (And.intro hGB (And.intro hlG (And.intro hlo (And.intro hw12 hsa))))
    clear hcw2 hbo hba hbb hown2 hown hL hc2 hca hGB hcur hlG hn0 hlo hw12
    go_wp2_with fail
    clear hsa
    obtain ⟨wa, ea⟩ : ∃ wa, wa = w2.alloc (.cells #[.slice b1 g.rules.length d1, .slice (some ⟨G, 0, none⟩) g.nodes.length d2] 25) := ⟨_, rfl⟩
    rw [← ea] at H2 HGB ⊢
    clear ea x0 x1
    refine (ofWell2_any _ a1 n1 c1 a2 n2 c2 g (H.out.1.keep H2.out.1.kp) H.out.2.1).mono ?_
    rintro e w3 ⟨A1, N1, C1, A2, N2, C2, A3, C3, g', zs, rfl, hof, hf3, hc3⟩
    have H3 := Lib.hid (And.intro hof (And.intro hf3 hc3))
    clear hof hf3 hc3
    go_wp2_with fail
    refine (idleIter_any _ _ _ _ _ _ _ _ _ _).mono ?_
    rintro e w4 ⟨rfl, hc4, hb1, hb2, hbT⟩
    have hca4 := H3.out.2.2.tr hc4
    have hcw := H2.out.1.tr hca4
    have hf4 := hc4.row H3.out.2.1 (fun _ _ => by simp)
    have hsz := H3.out.2.2.size
    have hgives := All_gives w4 _ _ _ _ _ _ _ _ _ _ _ _ g' zs (KeepF [G] w4.heap.size) (fun _ _ h => .of_chg0 h) (fun _ _ _ h k => h.trans k)
      (fun W hW => H3.out.1.ready (H.out.1.keep (hW.kp hcw hcw.size (by simp; exact Nat.le_trans H1'.out.1.size HGB.out.1))) (hW.row hf4 (fun k hk => ⟨(row_beyond hf4 hk).2.1, by have h1 := (row_beyond hf4 hk).1; have := HGB.out.2.1; have := HGB.out.2.2.2.2; simp; omega⟩))
        (hW.old _ _ (lt_of_block hb1) (by have := HGB.out.2.1; have := HGB.out.2.2.2.2; simp; omega) hb1) (hW.old _ _ (lt_of_block hb2) (by have := HGB.out.2.1; have := HGB.out.2.2.2.2; simp; omega) hb2) (hW.old _ _ (lt_of_block hbT) (by have := HGB.out.2.1; have := HGB.out.2.2.2.2; simp; omega) hbT))
    rw [H3.out.1.list] at hgives
    have H4 := Lib.hid (And.intro hcw (And.intro (hca4.heap H2.out.2.1 (by simp)) (And.intro (hca4.heap H2.out.2.2.1 (by simp)) (H2.out.2.2.2.1.chg0 hca4))))
    have hl4 := hca4.size
    clear hca4 hcw hf4 hb1 hb2 hbT hc4 hsz
    go_wp2_with fail
    refine (wpIn_wide (n := 3)).1 ?_
    obtain ⟨B1, hB1⟩ : ∃ b1, b1 = w3.heap.size + 2 := ⟨_, rfl⟩
    obtain ⟨B2, hB2⟩ : ∃ b2, b2 = w3.heap.size + 3 := ⟨_, rfl⟩
    rw [← hB1, ← hB2] at hgives ⊢
    clear hB1 hB2
    refine range_gives (n := 3) (gf := 172) (lb := #[.pointer (some ⟨B1, 0, none⟩), .pointer (some ⟨B2, 0, none⟩)]) rfl (enters_of Tryz.func172 (by kernel_rfl) rfl) hgives (fun pre x => Stays.pure _) ?hK (Chg.refl [] _) (fun _ => rfl)
      (fun pre W => (∃ M : List Cp, M.map (·.1) = mendL g.nodes pre ∧ OwnG w1.heap.size W b1 d1 (some ⟨G, 0, none⟩) d2 M g.rules) ∧ W.heap[w.heap.size + 1]? = some (.cells #[.slice none 0 0, .slice none 0 0] 25 (0, 0)) ∧ W.heap[w2.heap.size]? = some (.cells #[.slice b1 g.rules.length d1, .slice (some ⟨G, 0, none⟩) g.nodes.length d2] 25 (0, 0)) ∧ Chg [] w W)
      (fun _ _ _ => False)
      (fun s => (Stays.ex fun M => (Stays.pure _).and (OwnG.stays _ _ _ _ _ _ _ _)).and ((Stays.block _ _ _ rfl).and ((Stays.block _ _ _ rfl).and (Stays.since _ _ _ H4.out.1.size)))) (fun _ _ => Stays.pure _) ?h0
      (fun x a' W => a' = { tmps := #[.agg #[.slice a1 n1 c1, .slice a2 n2 c2], .pointer (some ⟨w.heap.size, 0, none⟩), .pointer (some ⟨w.heap.size + 1, 0, none⟩), .bool false, .pointer (some ⟨w2.heap.size, 0, none⟩), .int .i64 x, .agg #[.slice a1 n1 c1, .slice a2 n2 c2], .bool true, .bool false, undef, .agg #[.slice a1 n1 c1, .slice a2 n2 c2],
        .agg #[.slice b1 g.rules.length d1, .slice (some ⟨G, 0, none⟩) g.nodes.length d2], .agg #[.slice a1 n1 c1, .slice a2 n2 c2], workV A1 N1 C1 A2 N2 C2 A3 zs.length C3, .func (.func 172) #[] #[.pointer (some ⟨B1, 0, none⟩), .pointer (some ⟨B2, 0, none⟩)], .int .i64 x, undef, undef, undef, undef, undef, undef], defers := [] }) (fun x a' => Stays.pure _) ?assign ?body ?done ?stop
    case hK => exact fun pre x A A1 A2 C C' hc ht k1 ht2 => (((KeepF.of_chg0 hc).trans (.of_turn ht (Nat.le_refl _))).trans k1).trans (.of_turn ht2 (Nat.le_refl _))
    case h0 => exact ⟨⟨L, by rw [mendL_nil]; exact H2.out.2.2.2.2.1, H4.out.2.2.2⟩, H4.out.2.2.1, H4.out.2.1, H4.out.1⟩
    case assign =>
      rintro l pre x W K hi hx hK
      gi_wp2
      exact hK _ _ (Chg.refl _ _) rfl
    case body =>
      rintro l pre x a' W ⟨⟨M, hM, hown⟩, h1, h2, hch⟩ hx rfl
      obtain ⟨q, rfl, hq⟩ := idle_at hx
      have hMl : M.length = g.nodes.length := by have h := congrArg List.length hM; rwa [List.length_map, mendL_len] at h
      have hqM : q < M.length := by omega
      obtain ⟨hGB, kc, kf, ⟨cur, hcur⟩, kput⟩ := hown.kindPut hqM rfl
      have r0 := cells2 h2
      obtain ⟨r0, r1⟩ := r0
      have hn2 : g.nodes.length ≤ 9223372036854775807 := by have := H.out.1.e2; omega
      have hcA := (Chg.refl [G] W).setCell (p := ⟨G, q * 9, none⟩) (.inl (by simp)) (.int .i64 10)
      have hlG := HGB.out.2.1
      have hlo := HGB.out.2.2.1
      have hGB1 := HGB.out.1
      have HB := Lib.hid (And.intro hM (And.intro (kput 10) (And.intro h1 (And.intro h2 (And.intro hch (And.intro hx (And.intro hMl (And.intro hcur (And.intro hlG (And.intro hlo hGB1))))))))))
      clear hM hown kput h1 h2 hch hx hMl hcur hlG hlo hGB1 hGB
      gi_wp2_with fail
      obtain ⟨hM, kput, h1, h2, hch, hx, hMl, hcur, hlG, hlo, hGB1⟩ := HB.out
      refine ⟨keepsFrom_of_chg hcA (fun i hi => .inr (by simp at hi; subst hi; exact ⟨_, _, _, hcur⟩)), .of_chg hcA (fun k hk => .inr hk), ⟨_, ?_, kput⟩, hcA.heap h1 (by simp; omega), hcA.heap h2 (by simp; omega), hch.trans hcA (fun i hi => .inr (by have := H1'.out.1.size; simp at hi; omega))⟩
      rw [List.map_set, hM]
      have hqe : (M[q]).1 = (mendL g.nodes pre)[q]'(by rw [mendL_len]; exact hq) := by
        have : (M.map (·.1))[q]? = (mendL g.nodes pre)[q]? := by rw [hM]
        rw [List.getElem?_map, List.getElem?_eq_getElem hqM, List.getElem?_eq_getElem (by rw [mendL_len]; exact hq)] at this
        exact Option.some.inj this
      show (mendL g.nodes pre).set q ((M[q]).1.setK 10) = _
      rw [hqe]
      exact mendL_snoc hq
    case done =>
      rintro D xs W hD rfl ⟨⟨M, hM, hown⟩, h1, h2, hch⟩ hd
      obtain ⟨r0, r1⟩ := cells2 h2
      obtain ⟨y0, y1⟩ := cells2 h1
      have f0 := free_of_cells h1 0
      have f1 := free_of_cells h1 1
      have HB := Lib.hid (And.intro hM (And.intro hown (And.intro h1 (And.intro hch (And.intro hd hD)))))
      clear hM hown h1 hch hd hD h2
      dsimp only
      go_wp2_with fail
      obtain ⟨hM, hown, h1, hch, hd, hD⟩ := HB.out
      obtain ⟨w6, e6, z, hcs⟩ := two_setW (.slice b1 g.rules.length d1) (.slice (some ⟨G, 0, none⟩) g.nodes.length d2) h1
      rw [← e6]
      have hlo := HGB.out.2.2.1
      have hd6 := hcs.heap hd (by have := HGB.out.2.2.2.1; have := HGB.out.2.2.2.2; simp; omega)
      have hown6 := hown.under hcs (fun k hk => by simp at hk; omega)
      have hch6 := hch.trans hcs (fun k hk => .inr (by simp at hk; omega))
      refine leave_one (v := .tuple #[.agg #[.slice b1 g.rules.length d1, .slice (some ⟨G, 0, none⟩) g.nodes.length d2], .bool true]) (B := w4.heap.size) (I := fun W' => W'.heap[w.heap.size + 1]? = some (.cells #[.slice b1 g.rules.length d1, .slice (some ⟨G, 0, none⟩) g.nodes.length d2] 25 (0, 0)) ∧ OwnG w1.heap.size W' b1 d1 (some ⟨G, 0, none⟩) d2 M g.rules ∧ Chg [] w W') hd6 hD ((Stays.block _ _ _ rfl).and ((OwnG.stays _ _ _ _ _ _ _ _).and (Stays.since _ _ _ H4.out.1.size))) ⟨z, hown6, hch6⟩ ?_
      rintro W' ⟨q1, q2, q3⟩
      obtain ⟨c1', c2'⟩ := cells2 q1
      refine ⟨by simp [results, Tryz.results69, go_sem, c1', c2', lt_of_block q1], ?_, q3⟩
      exact ⟨_, _, _, _, rfl, M, hM, q2.below H1'.out.1.size⟩
    case stop =>
      rintro D c pre W hD _ h _
      exact h.elim
end
end Go.Proofs.YtibgfgfmljhimaaGreat

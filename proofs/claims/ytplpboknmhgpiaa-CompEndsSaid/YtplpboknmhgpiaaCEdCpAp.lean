/-
  ApartIntRows says that rows of rows of numbers lie apart, and writes over them alone.
  Conditions: four rows of rows, each of its own, all apart; they are not too long.
-/
import Derived.Test.YtplpboknmhgpiaaCEdAp3
import Derived.Test.YtplpboknmhgpiaaCEdCpOpen
import Derived.Test.YtplpboknmhgpiaaCEdGTail
set_option linter.unusedVariables false
set_option linter.unusedSimpArgs false
set_option linter.unnecessarySimpa false
namespace Go.Proofs.Ytplpboknmhgpiaa
open Go.RowKit Go.MapKept Go.Shelf

def cntZ (k i : Nat) : Nat := 1 + (k * 31 + i) % 97
/-- A row of slices of one's own, the first m as long as was told. -/
def RowC (w : World) (r : IR) (m k : Nat) : Prop := ∃ xs : List Value, w.ownsRow 0 26 1 r.v r.n xs ∧ ∀ i, i < m → ∃ a c, xs[i]? = some (.slice a (cntZ k i) c)
theorem RowC.le {w : World} {r : IR} {m m' k : Nat} (h : RowC w r m k) (hm : m' ≤ m) : RowC w r m' k := by
  obtain ⟨xs, h1, h2⟩ := h
  exact ⟨xs, h1, fun i hi => h2 i (by omega)⟩
theorem RowC.chg {w w' : World} {S : List Nat} {r : IR} {m k : Nat} (h : RowC w r m k) (hc : Chg S w w') (hn : ∀ x, r.blk = some x → x ∉ S) : RowC w' r m k := by
  obtain ⟨xs, h1, h2⟩ := h
  exact ⟨xs, hc.row h1 hn, h2⟩
def cntTo (w : World) (Q : Nat → IR) (k i : Nat) : Prop := ∀ j, j < 4 → RowC w (Q j) (if j < k then (Q j).n else if j = k then i else 0) j
def allL (VS : Nat → List Is) (k : Nat) : List Is := (List.range k).flatMap VS
theorem allL_succ (VS : Nat → List Is) (k : Nat) : allL VS (k + 1) = allL VS k ++ VS k := by simp [allL, List.range_succ]
def irOf (p : Is) : IR := ⟨p.1, p.2.2.length, p.2.1⟩
theorem irOf_v (p : Is) : (irOf p).v = p.cell := rfl

set_option maxRecDepth 100000 in
set_option maxHeartbeats 32000000 in
theorem ApartIntRows4_any (w : World) (bL oL cL : Nat) (Q : Nat → IR) (VS : Nat → List Is) (T : List Nat) (hcl : ∀ j, j < 4 → w.cell? ⟨bL, oL + j, none⟩ = some (Q j).v) (hbT : bL ∉ T) (hcL : 4 ≤ cL ∧ cL ≤ maxLen)
    (hO : ∀ j, j < 4 → OwnIs 0 w (Q j).a (Q j).c (VS j) ∧ (Q j).n = (VS j).length ∧ (VS j).length ≤ 64 ∧ ∀ p ∈ VS j, p.2.2.length ≤ 1000000)
    (hT1 : ∀ j, j < 4 → ∀ p ∈ VS j, ∀ x, p.own = some x → x ∈ T) (hT2 : ∀ j, j < 4 → ∀ x, (Q j).blk = some x → x ∈ T)
    (hap1 : (allL VS 4).Pairwise fun p q => ∀ x, p.own = some x → q.own ≠ some x) (hap2 : ∀ i j, i < 4 → j < 4 → i ≠ j → ∀ x, (Q i).blk = some x → (Q j).blk ≠ some x) :
    Calls Try.prog 41 #[.slice (some ⟨bL, oL, none⟩) 4 cL] w fun e w' => e = .returned (.bool true) ∧ Chg T w w' := by
  obtain ⟨j0, hj0, hy0, hy1, hy2⟩ := info_parts Try.infoInts
  have hbl : bL < w.heap.size := World.block_lt_of_cell? _ _ (hcl 0 (by decide))
  have H := Lib.hid (And.intro hcl (And.intro hO (And.intro hT1 (And.intro hT2 (And.intro hap1 hap2)))))
  have HB := Lib.hid (And.intro hbT hcL)
  clear hcl hO hT1 hT2 hap1 hap2 hbT hcL
  go_enter Try.func41, Try.ntmps41
  go_wp2_with fail
  go_loopg [4, 3] 4 (fun dd kv av wr => ∃ (k q ac : Nat) (aa : Option Addr), dd = 4 - k ∧ k ≤ 4 ∧ kv = .int .i64 k ∧ av = .slice aa q ac ∧ q ≤ 64 * k ∧ Hid (q = (allL VS k).length ∧ wr.ownsRow w.heap.size 26 1 (.slice aa q ac) q ((allL VS k).map Is.cell) ∧ Chg [] w wr))
  case atStart => exact ⟨0, 0, 0, none, rfl, Nat.zero_le _, rfl, rfl, Nat.le_refl _, Lib.hid ⟨rfl, World.ownsRow_nil _ _ _ _, Chg.refl _ _⟩⟩
  case round =>
    obtain ⟨k, q, ac, aa, rfl, hk, rfl, rfl, hq, hin⟩ := hrel
    obtain ⟨wq, rfl⟩ : ∃ wz, wz = wr := ⟨_, rfl⟩
    by_cases hkl : k < 4
    · obtain ⟨hOw, hQn, hV32, _⟩ := H.out.2.1 k hkl
      have hcell := hin.out.2.2.cell (H.out.1 k hkl) (by simp)
      obtain ⟨qa, hqa⟩ : ∃ qa, qa = (Q k).a := ⟨_, rfl⟩
      obtain ⟨qn, hqn⟩ : ∃ qn, qn = (Q k).n := ⟨_, rfl⟩
      obtain ⟨qc, hqc⟩ : ∃ qc, qc = (Q k).c := ⟨_, rfl⟩
      have hv : (Q k).v = .slice qa qn qc := by rw [hqa, hqn, hqc]; rfl
      rw [hv] at hcell
      have hrowQ : wq.ownsRow 0 26 1 (.slice qa qn qc) qn ((VS k).map Is.cell) := by
        rw [hqa, hqn, hqc, hQn]
        exact hin.out.2.2.row hOw.row (fun _ _ => by simp)
      have hqn32 : qn ≤ 64 := by omega
      have hnone : qa = none → qn = 0 := fun h => by
        rcases hrowQ.2 with ⟨h0, h1⟩ | ⟨g, cap, cur, h0, _⟩
        · exact h1
        · rw [h] at h0; cases h0
      have hnews : ∀ b, qa = some b → ∀ j u, ((VS k).map Is.cell)[j]? = some u → wq.cell? (b.add j) = some u := fun b hb => by
        rcases hrowQ.2 with ⟨h0, h1⟩ | ⟨g, cap, cur, h0, _⟩
        · rw [hb] at h0; cases h0
        · rw [hb] at h0
          cases h0
          subst hb
          exact World.ownsRow.cells hrowQ (g := g) rfl
      have h1' : ∀ u ∈ (VS k).map Is.cell, u.oneCell' = true := by intro u hu; obtain ⟨p, _, rfl⟩ := List.mem_map.1 hu; rfl
      have hlen : ((VS k).map Is.cell).length = qn * 1 := by rw [List.length_map, Nat.mul_one]; omega
      have HA := Lib.hid (And.intro hin.out.2.1 (And.intro hlen (And.intro hnone (And.intro hnews (And.intro h1' hin.out.2.2.size)))))
      have hbq : bL < wq.heap.size := Nat.lt_of_lt_of_le hbl hin.out.2.2.size
      have hqV : qn = (VS k).length := by omega
      have HV := Lib.hid hqV
      have hki : (k : Int) < 4 := by omega
      clear hOw hQn hV32 hqa hqn hqc hv hrowQ hnone hnews h1' hlen hqV
      go_wp2_with (at_builtin; refine wpList_append_two rfl _ _ 22 rfl w.heap.size 26 j0 _ 1 24 Try.underlying22 hj0 hy0 hy1 hy2 rfl (by decide) (.slice aa q ac) q ((allL VS k).map Is.cell) rfl HA.out.1 qa qn qc ((VS k).map Is.cell) rfl HA.out.2.1 HA.out.2.2.1 HA.out.2.2.2.1 HA.out.2.2.2.2.1 (by simp only [maxLen]; omega) (by omega) HA.out.2.2.2.2.2 ?_; intro v' w5 hr5 hg5 hb5; obtain ⟨a5, c5, rfl⟩ := ownsRow_slice hr5; have HW := Lib.hid (And.intro hr5 hg5); clear hr5 hg5 hb5)
      go_roundg (4 - (k + 1))
      case measure => omega
      case rel =>
        have hrw := HW.out.1
        rw [← List.map_append, ← allL_succ] at hrw
        exact ⟨k + 1, q + qn, c5, a5, rfl, by omega, by go_num, rfl, by omega, Lib.hid ⟨by rw [allL_succ, List.length_append, ← hin.out.1, ← HV.out], hrw, hin.out.2.2.grown HW.out.2 (fun y hy => .inr (row_beyond HA.out.1 hy).1)⟩⟩
    · obtain rfl : k = 4 := by omega
      -- all rows lie apart
      obtain ⟨FL, hFL⟩ : ∃ FL, FL = allL VS 4 := ⟨_, rfl⟩
      have hmemF : ∀ p ∈ FL, ∃ j, j < 4 ∧ p ∈ VS j := fun p hp => by
        rw [hFL] at hp
        obtain ⟨j, hj, hpj⟩ := List.mem_flatMap.1 hp
        exact ⟨j, List.mem_range.1 hj, hpj⟩
      have hin1 := hin.out.2.1
      have hin0 := hin.out.1
      rw [← hFL] at hin1 hin0
      have hown : ∀ p ∈ FL, FreshInts 0 wq p.1 p.2.1 p.2.2 := fun p hp => by
        obtain ⟨j, hj, hpj⟩ := hmemF p hp
        exact hin.out.2.2.row ((H.out.2.1 j hj).1.each p hpj) (fun _ _ => by simp)
      obtain ⟨R, hR⟩ : ∃ R : Nat → IR, R = fun j => irOf (FL.getD j (none, 0, [])) := ⟨_, rfl⟩
      have hRat : ∀ j (h : j < FL.length), R j = irOf FL[j] := fun j h => by rw [hR]; simp only [List.getD, List.getElem?_eq_getElem h]; rfl
      have hcells : ∀ j, j < q → ∃ b o, aa = some ⟨b, o, none⟩ ∧ wq.cell? ⟨b, o + j, none⟩ = some (R j).v := fun j hj => by
        rcases hin1.2 with ⟨h0, h1⟩ | ⟨g, cap, cur, h0, hb, hg, hn, hc, hs, ht⟩
        · omega
        · cases h0
          refine ⟨g, 0, rfl, ?_⟩
          rw [Nat.zero_add, cell_of_cells hg, hRat j (by omega), irOf_v]
          have h1 : (FL.map Is.cell)[j]? = some FL[j].cell := by simp [show j < FL.length by omega]
          rw [← ht, List.getElem?_take] at h1
          split at h1
          · simpa using h1
          · cases h1
      have hcap : q ≤ ac ∧ ac ≤ maxLen := by
        rcases hin1.2 with ⟨h0, h1⟩ | ⟨g, cap, cur, h0, hb, hg, hn, hc, hs, ht⟩
        · cases h0; exact ⟨by omega, Nat.zero_le _⟩
        · cases h0; exact ⟨hn, hc⟩
      obtain ⟨S, hS⟩ : ∃ S, S = FL.filterMap Is.own := ⟨_, rfl⟩
      have hmemS : ∀ x ∈ S, ∃ p ∈ FL, p.own = some x := fun x hx => by rw [hS] at hx; exact List.mem_filterMap.1 hx
      have hA : Apart q wq S R := by
        refine ⟨fun j hj => ?_, fun i j hi hj hij x hx => ?_, fun j hj x hx => ?_, fun x hx => ?_⟩
        · rw [hRat j (by omega)]
          exact ⟨_, hown _ (List.getElem_mem _), fun i hi => absurd hi (by omega)⟩
        · have hp := H.out.2.2.2.2.1
          rw [← hFL] at hp
          rw [hRat i (by omega)] at hx
          rw [hRat j (by omega)]
          rcases Nat.lt_or_ge i j with h | h
          · exact List.pairwise_iff_getElem.1 hp i j (by omega) (by omega) h x hx
          · intro hy
            exact List.pairwise_iff_getElem.1 hp j i (by omega) (by omega) (by omega) x hy hx
        · rw [hRat j (by omega)] at hx
          rw [hS]
          exact List.mem_filterMap.2 ⟨_, List.getElem_mem (show j < FL.length by omega), hx⟩
        · obtain ⟨p, hp, hx⟩ := hmemS x hx
          exact row_notrow (hown p hp) hx (by decide)
      have hSlt : ∀ x ∈ S, x < wq.heap.size := fun x hx => by
        obtain ⟨p, hp, hx⟩ := hmemS x hx
        exact (row_beyond (hown p hp) hx).2.1
      have hST : ∀ x ∈ S, x ∈ T := fun x hx => by
        obtain ⟨p, hp, hx⟩ := hmemS x hx
        obtain ⟨j, hj, hpj⟩ := hmemF p hp
        exact H.out.2.2.1 j hj p hpj x hx
      have hSn : ∀ x ∈ S, NotRow wq 26 x := hA.all
      have hcall := ApartInts_any wq aa q ac S R (by omega) (fun j hj => by
        rw [hRat j (by omega)]
        obtain ⟨i, hi, hpi⟩ := hmemF _ (List.getElem_mem (show j < FL.length by omega))
        have := (H.out.2.1 i hi).2.2.2 _ hpi
        show FL[j].2.2.length ≤ _
        omega) hcells hcap.1 hcap.2 hA hSlt
      have HC := Lib.hid (And.intro hcall (And.intro hST (And.intro hSn hin.out.2.2)))
      clear hFL hmemF hin1 hin0 hown hR hRat hcells hcap hS hmemS hA hSlt hST hSn hcall hin
      go_wp2_with fail
      refine HC.out.1.mono ?_
      rintro e w2 ⟨rfl, h2⟩
      have hcT : Chg T w w2 := HC.out.2.2.2.any.trans h2 (fun x hx => .inl (HC.out.2.1 x hx))
      have hrows : cntTo w2 Q 0 0 := fun j hj => by
        rw [if_neg (Nat.not_lt_zero _)]
        have h9 := h2.rowOf (HC.out.2.2.2.row (H.out.2.1 j hj).1.row (fun _ _ => by simp)) HC.out.2.2.1
        rw [← (H.out.2.1 j hj).2.1] at h9
        have h8 : RowC w2 (Q j) 0 j := ⟨(VS j).map Is.cell, h9, fun i hi => absurd hi (by omega)⟩
        exact h8.le (by split <;> omega)
      have H2 := Lib.hid (And.intro hrows hcT)
      clear hrows hcT h2
      go_wp2_with fail
      go_loopg [5] 4 (fun dd kv wr => ∃ k : Nat, dd = 4 - k ∧ k ≤ 4 ∧ kv = .int .i64 k ∧ Hid (cntTo wr Q k 0 ∧ Chg T w wr))
      case atStart => exact ⟨0, rfl, Nat.zero_le _, rfl, H2⟩
      case round =>
        obtain ⟨k, rfl, hk, rfl, hin⟩ := hrel
        obtain ⟨wk, rfl⟩ : ∃ wz, wz = wr := ⟨_, rfl⟩
        by_cases hkl : k < 4
        · obtain ⟨qn, hqn⟩ : ∃ qn, qn = (Q k).n := ⟨_, rfl⟩
          have hqn32 : qn ≤ 64 := by have := (H.out.2.1 k hkl).2; omega
          have HN := Lib.hid hqn
          clear hqn
          go_wp2_with fail
          rw [show decide ((k : Int) < 4) = true from decide_eq_true (by omega)]
          go_loopg [6] qn (fun dd iv wr => ∃ i : Nat, dd = qn - i ∧ i ≤ qn ∧ iv = .int .i64 i ∧ Hid (cntTo wr Q k i ∧ Chg T w wr))
          case atStart => exact ⟨0, rfl, Nat.zero_le _, rfl, hin⟩
          case round =>
            obtain ⟨i, rfl, hi, rfl, hin2⟩ := hrel
            obtain ⟨wq, rfl⟩ : ∃ wz, wz = wr := ⟨_, rfl⟩
            have hcell := hin2.out.2.cell (H.out.1 k hkl) HB.out.1
            have hbq : bL < wq.heap.size := Nat.lt_of_lt_of_le hbl hin2.out.2.size
            obtain ⟨qc, hqc⟩ : ∃ qc, qc = (Q k).c := ⟨_, rfl⟩
            obtain ⟨qa, hqa⟩ : ∃ qa, qa = (Q k).a := ⟨_, rfl⟩
            have hv : (Q k).v = .slice qa qn qc := by rw [hqa, HN.out, hqc]; rfl
            rw [hv] at hcell
            have hki : (k : Int) < 4 := by omega
            by_cases hil : i < qn
            · obtain ⟨xs, hx1, hx2⟩ := hin2.out.1 k hkl
              rw [hv, ← HN.out] at hx1
              obtain ⟨gq, hgq⟩ : ∃ gq, qa = some ⟨gq, 0, none⟩ := by
                rcases hx1.2 with ⟨h0, h1⟩ | ⟨g, cap, cur, h0, _⟩
                · omega
                · cases h0; exact ⟨g, rfl⟩
              subst hgq
              obtain ⟨cz, hcz, hcz2, hcz3⟩ : ∃ cz : Nat, (1 : Int) + ((k : Int) * 31 + i) % 97 = (cz : Int) ∧ cz ≤ 97 ∧ cz = cntZ k i := ⟨cntZ k i, by unfold cntZ; omega, by unfold cntZ; omega, rfl⟩
              have hmk := run_zeros cz (by omega)
              have hgb : (Q k).blk = some gq := by unfold IR.blk; rw [hv]; rfl
              have HX := Lib.hid (And.intro hx1 (And.intro hx2 (And.intro hgb (And.intro hcz3 hv))))
              have hcap : qn ≤ qc := by
                rcases hx1.2 with ⟨h0, h1⟩ | ⟨g, cap, cur, h0, hb, hg, hn, _⟩
                · cases h0
                · cases h0; exact hn
              have hii : (i : Int) < qn := by omega
              clear hx1 hx2 hgb hcz3 hqc hqa hv
              have hw1 : IntKind.i64.wrap ((k : Int) * 31) = (k : Int) * 31 := IntWalk.i64_in _ (by omega)
              have hw2 : IntKind.i64.wrap ((k : Int) * 31 + i) = (k : Int) * 31 + i := IntWalk.i64_in _ (by omega)
              have hw3 : IntKind.i64.wrap (cz : Int) = cz := IntWalk.i64_in _ (by omega)
              go_wp2_with fail
              refine wp_region_tail1 (by kernel_rfl) (by kernel_rfl) [39, 40, 41, 42, 43, 44, 45, 46, 47, 48, 49, 50, 51] (by kernel_rfl) (fun rI rV rW => match rI with | 0 => rV = .slice (some ⟨bL, oL, none⟩) 4 cL | 1 => rV = .int .i64 k | 2 => rV = .pointer (some ⟨bL, oL + k, none⟩) | 3 => rV = .slice (some ⟨gq, 0, none⟩) qn qc | 4 => rV = .int .i64 i | 5 => rV = .int .i64 k | 6 => rV = .int .i64 ((k : Int) * 31) | 7 => rV = .int .i64 i | 8 => rV = .int .i64 ((k : Int) * 31 + i) | 9 => rV = .int .i64 (((k : Int) * 31 + i) % 97) | 10 => rV = .int .i64 cz | 11 => ∃ b50, rV = .slice (some ⟨b50, 0, none⟩) cz cz ∧ rW.heap.size = rW.heap.size | 12 => rV = .pointer (some ⟨gq, i, none⟩) | _ => True) ?hS14 ?hstep14 ?hdone14
              case hS14 =>
                intro rI rV rW rW' hc rP
                match rI, rP with
                | 0, rP => exact rP
                | 1, rP => exact rP
                | 2, rP => exact rP
                | 3, rP => exact rP
                | 4, rP => exact rP
                | 5, rP => exact rP
                | 6, rP => exact rP
                | 7, rP => exact rP
                | 8, rP => exact rP
                | 9, rP => exact rP
                | 10, rP => exact rP
                | 11, rP => exact (by obtain ⟨b50, e9, hp⟩ := rP; exact ⟨b50, e9, (by first | rfl | trivial)⟩)
                | 12, rP => exact rP
                | _ + 13, _ => trivial
              case hstep14 =>
                intro rI rH us W hC hdep K hK
                have hiN : rI < 13 := rH
                simp only [actU, Act.put, List.setIfInBounds_toArray, List.set_cons_succ, List.set_cons_zero, Nat.reduceAdd] at hK ⊢
                have hcl := hC.cell hcell (by simp)
                rcases (show rI = 0 ∨ rI = 1 ∨ rI = 2 ∨ rI = 3 ∨ rI = 4 ∨ rI = 5 ∨ rI = 6 ∨ rI = 7 ∨ rI = 8 ∨ rI = 9 ∨ rI = 10 ∨ rI = 11 ∨ rI = 12 by omega) with rfl | rfl | rfl | rfl | rfl | rfl | rfl | rfl | rfl | rfl | rfl | rfl | rfl
                · simp only [List.getD_cons_succ, List.getD_cons_zero, List.setIfInBounds_toArray, List.set_cons_succ, List.set_cons_zero] at hK ⊢
                  refine wpOp_at rfl rfl ?_
                  go_simp
                  exact hK _ _ _ rfl (Chg.refl _ _) rfl
                · simp only [List.getD_cons_succ, List.getD_cons_zero, List.setIfInBounds_toArray, List.set_cons_succ, List.set_cons_zero] at hK ⊢
                  refine wpOp_at rfl rfl ?_
                  go_simp
                  exact hK _ _ _ rfl (Chg.refl _ _) rfl
                · have l0 := hdep 0 (by kernel_rfl)
                  replace l0 : us 0 = .slice (some ⟨bL, oL, none⟩) 4 cL := l0
                  have l1 := hdep 1 (by kernel_rfl)
                  replace l1 : us 1 = .int .i64 k := l1
                  simp only [List.getD_cons_succ, List.getD_cons_zero, List.setIfInBounds_toArray, List.set_cons_succ, List.set_cons_zero, l0, l1] at hK ⊢
                  refine wpOp_at rfl rfl ?_
                  go_simp
                  exact hK _ _ _ rfl (Chg.refl _ _) rfl
                · have l2 := hdep 2 (by kernel_rfl)
                  replace l2 : us 2 = .pointer (some ⟨bL, oL + k, none⟩) := l2
                  simp only [List.getD_cons_succ, List.getD_cons_zero, List.setIfInBounds_toArray, List.set_cons_succ, List.set_cons_zero, l2] at hK ⊢
                  refine wpOp_at rfl rfl ?_
                  go_simp
                  exact hK _ _ _ rfl (Chg.refl _ _) rfl
                · simp only [List.getD_cons_succ, List.getD_cons_zero, List.setIfInBounds_toArray, List.set_cons_succ, List.set_cons_zero] at hK ⊢
                  refine wpOp_at rfl rfl ?_
                  go_simp
                  exact hK _ _ _ rfl (Chg.refl _ _) rfl
                · simp only [List.getD_cons_succ, List.getD_cons_zero, List.setIfInBounds_toArray, List.set_cons_succ, List.set_cons_zero] at hK ⊢
                  refine wpOp_at rfl rfl ?_
                  go_simp
                  exact hK _ _ _ rfl (Chg.refl _ _) rfl
                · have l5 := hdep 5 (by kernel_rfl)
                  replace l5 : us 5 = .int .i64 k := l5
                  simp only [List.getD_cons_succ, List.getD_cons_zero, List.setIfInBounds_toArray, List.set_cons_succ, List.set_cons_zero, l5] at hK ⊢
                  refine wpOp_at rfl rfl ?_
                  go_simp
                  exact hK _ _ _ rfl (Chg.refl _ _) rfl
                · simp only [List.getD_cons_succ, List.getD_cons_zero, List.setIfInBounds_toArray, List.set_cons_succ, List.set_cons_zero] at hK ⊢
                  refine wpOp_at rfl rfl ?_
                  go_simp
                  exact hK _ _ _ rfl (Chg.refl _ _) rfl
                · have l6 := hdep 6 (by kernel_rfl)
                  replace l6 : us 6 = .int .i64 ((k : Int) * 31) := l6
                  have l7 := hdep 7 (by kernel_rfl)
                  replace l7 : us 7 = .int .i64 i := l7
                  simp only [List.getD_cons_succ, List.getD_cons_zero, List.setIfInBounds_toArray, List.set_cons_succ, List.set_cons_zero, l6, l7] at hK ⊢
                  refine wpOp_at rfl rfl ?_
                  go_simp
                  exact hK _ _ _ rfl (Chg.refl _ _) rfl
                · have l8 := hdep 8 (by kernel_rfl)
                  replace l8 : us 8 = .int .i64 ((k : Int) * 31 + i) := l8
                  simp only [List.getD_cons_succ, List.getD_cons_zero, List.setIfInBounds_toArray, List.set_cons_succ, List.set_cons_zero, l8] at hK ⊢
                  refine wpOp_at rfl rfl ?_
                  go_simp
                  exact hK _ _ _ rfl (Chg.refl _ _) rfl
                · have l9 := hdep 9 (by kernel_rfl)
                  replace l9 : us 9 = .int .i64 (((k : Int) * 31 + i) % 97) := l9
                  simp only [List.getD_cons_succ, List.getD_cons_zero, List.setIfInBounds_toArray, List.set_cons_succ, List.set_cons_zero, l9] at hK ⊢
                  refine wpOp_at rfl rfl ?_
                  go_simp
                  exact hK _ _ _ rfl (Chg.refl _ _) rfl
                · have l10 := hdep 10 (by kernel_rfl)
                  replace l10 : us 10 = .int .i64 cz := l10
                  simp only [List.getD_cons_succ, List.getD_cons_zero, List.setIfInBounds_toArray, List.set_cons_succ, List.set_cons_zero, l10] at hK ⊢
                  refine wpOp_at rfl rfl ?_
                  go_simp
                  exact hK _ _ _ rfl ((Chg.refl _ _).alloc _) ⟨W.heap.size, rfl, (by first | rfl | trivial)⟩
                · have l3 := hdep 3 (by kernel_rfl)
                  replace l3 : us 3 = .slice (some ⟨gq, 0, none⟩) qn qc := l3
                  have l4 := hdep 4 (by kernel_rfl)
                  replace l4 : us 4 = .int .i64 i := l4
                  simp only [List.getD_cons_succ, List.getD_cons_zero, List.setIfInBounds_toArray, List.set_cons_succ, List.set_cons_zero, l3, l4] at hK ⊢
                  refine wpOp_at rfl rfl ?_
                  go_simp
                  exact hK _ _ _ rfl (Chg.refl _ _) rfl
              case hdone14 =>
                intro us W hC hall
                have l0 := hall 0 (by decide)
                replace l0 : us 0 = .slice (some ⟨bL, oL, none⟩) 4 cL := l0
                have l1 := hall 1 (by decide)
                replace l1 : us 1 = .int .i64 k := l1
                have l2 := hall 2 (by decide)
                replace l2 : us 2 = .pointer (some ⟨bL, oL + k, none⟩) := l2
                have l3 := hall 3 (by decide)
                replace l3 : us 3 = .slice (some ⟨gq, 0, none⟩) qn qc := l3
                have l4 := hall 4 (by decide)
                replace l4 : us 4 = .int .i64 i := l4
                have l5 := hall 5 (by decide)
                replace l5 : us 5 = .int .i64 k := l5
                have l6 := hall 6 (by decide)
                replace l6 : us 6 = .int .i64 ((k : Int) * 31) := l6
                have l7 := hall 7 (by decide)
                replace l7 : us 7 = .int .i64 i := l7
                have l8 := hall 8 (by decide)
                replace l8 : us 8 = .int .i64 ((k : Int) * 31 + i) := l8
                have l9 := hall 9 (by decide)
                replace l9 : us 9 = .int .i64 (((k : Int) * 31 + i) % 97) := l9
                have l10 := hall 10 (by decide)
                replace l10 : us 10 = .int .i64 cz := l10
                have l11 := hall 11 (by decide)
                obtain ⟨b50, l11, p11⟩ := l11
                have l12 := hall 12 (by decide)
                replace l12 : us 12 = .pointer (some ⟨gq, i, none⟩) := l12
                simp only [actU, Act.put, List.setIfInBounds_toArray, List.set_cons_succ, List.set_cons_zero, Nat.reduceAdd, l0, l1, l2, l3, l4, l5, l6, l7, l8, l9, l10, l11, l12]
                clear hall l0 l1 l2 l3 l4 l5 l6 l7 l8 l9 l10 l11 l12
                obtain ⟨hP1, hP2, hP3, ⟨cur, hP4⟩, hP5⟩ := row_put (hC.row HX.out.1 (fun _ _ => by simp)) (i := i) (by omega)
                obtain ⟨v9, hv9⟩ : ∃ v, W.cell? ⟨gq, i, none⟩ = some v := by
                  rw [hP1]
                  have hl := HX.out.1.1
                  exact ⟨_, List.getElem?_eq_getElem (by omega)⟩
                have hgl := lt_of_block hP4
                have HP := Lib.hid (And.intro (hP5 (.slice (some ⟨b50, 0, none⟩) cz cz)) (And.intro hC hin2.out))
                clear hP1 hP3 hP4 hP5
                refine wpOp_at rfl rfl ?_
                go_simp
                have hZ : Hid (cntTo (W.setCell ⟨gq, i, none⟩ (.slice (some ⟨b50, 0, none⟩) cz cz)) Q k (i + 1) ∧ Chg T w (W.setCell ⟨gq, i, none⟩ (.slice (some ⟨b50, 0, none⟩) cz cz))) := by
                  obtain ⟨⟨p1, p2⟩, hC, hm, hS⟩ := HP.out
                  refine Lib.hid ⟨fun j hj => ?_, (hS.tr0 hC).setCell (p := ⟨gq, i, none⟩) (.inl (H.out.2.2.2.1 k hkl gq HX.out.2.2.1)) _⟩
                  by_cases e : j = k
                  · subst e
                    rw [if_neg (Nat.lt_irrefl _), if_pos rfl]
                    refine ⟨xs.set i (.slice (some ⟨b50, 0, none⟩) cz cz), ?_, fun m hm9 => ?_⟩
                    · rw [HX.out.2.2.2.2, ← HN.out]
                      exact p1
                    · rw [List.getElem?_set]
                      by_cases e : i = m
                      · subst e
                        rw [if_pos rfl, if_pos (by have := HX.out.1.1; omega), HX.out.2.2.2.1]
                        exact ⟨_, _, rfl⟩
                      · rw [if_neg e]
                        have := HX.out.2.1
                        simp only [Nat.lt_irrefl, if_false, if_true] at this
                        exact this m (by omega)
                  · have h5 := hm j hj
                    rw [if_neg e] at h5 ⊢
                    refine h5.chg (hC.any.tr p2) (fun x hx hm => ?_)
                    simp only [List.mem_singleton] at hm
                    subst hm
                    exact H.out.2.2.2.2.2 j k hj hkl e x hx HX.out.2.2.1
                clear hv9 hP2 HP hcell hgl hC
                go_wp2_with fail
                go_roundg (qn - (i + 1))
                case measure => omega
                case rel => exact ⟨i + 1, rfl, by omega, by go_num, hZ⟩
            · obtain rfl : i = qn := by omega
              go_wp2_with fail
              go_roundg (4 - (k + 1))
              case measure => omega
              case rel =>
                refine ⟨k + 1, rfl, by omega, by go_num, Lib.hid ⟨fun j hj => ?_, hin2.out.2⟩⟩
                have h5 := hin2.out.1 j hj
                by_cases e1 : j < k
                · rw [if_pos e1] at h5
                  rw [if_pos (by omega)]
                  exact h5
                · rw [if_neg e1] at h5
                  by_cases e2 : j = k
                  · subst e2
                    rw [if_pos rfl, HN.out] at h5
                    rw [if_pos (by omega)]
                    exact h5
                  · rw [if_neg e2] at h5
                    rw [if_neg (by omega)]
                    exact h5.le (by split <;> omega)
        · obtain rfl : k = 4 := by omega
          have hall : ∀ j, j < 4 → RowC wk (Q j) (Q j).n j := fun j hj => by
            have := hin.out.1 j hj
            rw [if_pos hj] at this
            exact this
          have HL := Lib.hid (And.intro hall hin.out.2)
          clear hall hin
          go_wp2_with fail
          go_loopg [7] 4 (fun dd kv wr => ∃ k : Nat, dd = 4 - k ∧ k ≤ 4 ∧ kv = .int .i64 k ∧ Hid (Chg [] wk wr))
          case atStart => exact ⟨0, rfl, Nat.zero_le _, rfl, Lib.hid (Chg.refl _ _)⟩
          case round =>
            obtain ⟨k, rfl, hk, rfl, hin⟩ := hrel
            obtain ⟨wm, rfl⟩ : ∃ wz, wz = wr := ⟨_, rfl⟩
            by_cases hkl : k < 4
            · obtain ⟨qn, hqn⟩ : ∃ qn, qn = (Q k).n := ⟨_, rfl⟩
              have hqn32 : qn ≤ 64 := by have := (H.out.2.1 k hkl).2; omega
              have HN := Lib.hid hqn
              clear hqn
              go_wp2_with fail
              rw [show decide ((k : Int) < 4) = true from decide_eq_true (by omega)]
              go_loopg [8] qn (fun dd iv wr => ∃ i : Nat, dd = qn - i ∧ i ≤ qn ∧ iv = .int .i64 i ∧ Hid (Chg [] wk wr))
              case atStart => exact ⟨0, rfl, Nat.zero_le _, rfl, hin⟩
              case round =>
                obtain ⟨i, rfl, hi, rfl, hin2⟩ := hrel
                obtain ⟨wq, rfl⟩ : ∃ wz, wz = wr := ⟨_, rfl⟩
                have hcell := (HL.out.2.tr0 hin2.out).cell (H.out.1 k hkl) HB.out.1
                have hbq : bL < wq.heap.size := Nat.lt_of_lt_of_le hbl (HL.out.2.tr0 hin2.out).size
                obtain ⟨qc, hqc⟩ : ∃ qc, qc = (Q k).c := ⟨_, rfl⟩
                obtain ⟨qa, hqa⟩ : ∃ qa, qa = (Q k).a := ⟨_, rfl⟩
                have hv : (Q k).v = .slice qa qn qc := by rw [hqa, HN.out, hqc]; rfl
                rw [hv] at hcell
                have hki : (k : Int) < 4 := by omega
                by_cases hil : i < qn
                · obtain ⟨xs, hx1, hx2⟩ := HL.out.1 k hkl
                  rw [hv, ← HN.out] at hx1
                  rw [← HN.out] at hx2
                  have hx1 := hin2.out.row hx1 (fun _ _ => by simp)
                  obtain ⟨gq, hgq⟩ : ∃ gq, qa = some ⟨gq, 0, none⟩ := by
                    rcases hx1.2 with ⟨h0, h1⟩ | ⟨g, cap, cur, h0, _⟩
                    · omega
                    · cases h0; exact ⟨g, rfl⟩
                  subst hgq
                  obtain ⟨sa, sc, hsx⟩ := hx2 i hil
                  obtain ⟨hP1, _, _, ⟨cur, hP4⟩, _⟩ := row_put hx1 (i := i) (by omega)
                  rw [hsx] at hP1
                  obtain ⟨cz, hcz, hcz2, hcz3⟩ : ∃ cz : Nat, (1 : Int) + ((k : Int) * 31 + i) % 97 = (cz : Int) ∧ cz ≤ 97 ∧ cz = cntZ k i := ⟨cntZ k i, by unfold cntZ; omega, by unfold cntZ; omega, rfl⟩
                  rw [← hcz3] at hP1
                  have hgl := lt_of_block hP4
                  have hii : (i : Int) < qn := by omega
                  clear hx1 hx2 hsx hP4 hcz3 hqc hqa hv
                  go_wp2_with fail
                  go_roundg (qn - (i + 1))
                  case measure => omega
                  case rel => exact ⟨i + 1, rfl, by omega, by go_num, hin2⟩
                · obtain rfl : i = qn := by omega
                  clear hqc hqa hv
                  go_wp2_with fail
                  go_roundg (4 - (k + 1))
                  case measure => omega
                  case rel => exact ⟨k + 1, rfl, by omega, by go_num, hin2⟩
            · obtain rfl : k = 4 := by omega
              go_wp2_with fail
              go_ret
              exact ⟨rfl, HL.out.2.tr0 hin.out⟩
end Go.Proofs.Ytplpboknmhgpiaa

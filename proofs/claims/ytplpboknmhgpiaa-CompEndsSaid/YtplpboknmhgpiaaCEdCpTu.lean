/-
  A graph turned round, in memory: rows that grow, edge by edge.
  Conditions: none.
-/
import Derived.Test.YtplpboknmhgpiaaCEdCpO0
import Derived.Test.YtplpboknmhgpiaaCEdCpRg
set_option linter.unusedVariables false
set_option linter.unusedSimpArgs false
set_option linter.unnecessarySimpa false
namespace Go.Proofs.Ytplpboknmhgpiaa
open Go.RowKit Go.MapKept Go.Shelf

/-- Who leads to a number, by so many edges. -/
def turnF (es : List (Nat × Nat)) (q : Nat) : List Int := (es.filter (fun e => e.2 == q)).map (fun e => (e.1 : Int))
theorem turnF_snoc (es : List (Nat × Nat)) (a b : Nat) : turnF (es ++ [(a, b)]) = Cp.upd (turnF es) b (turnF es b ++ [(a : Int)]) := by
  funext q
  unfold turnF Cp.upd
  rw [List.filter_append, List.map_append]
  by_cases h : b = q
  · subst h; simp
  · have : ¬ q = b := fun e => h e.symm
    simp [h, this]
theorem turn_row1 {l : List Nat} (a q : Nat) (h : l.Nodup) : ((l.map (fun b => (a, b))).filter (fun e => e.2 == q)).map (fun e => (e.1 : Int)) = if l.contains q then [(a : Int)] else [] := by
  induction l with
  | nil => simp
  | cons x l ih =>
    obtain ⟨h1, h2⟩ := List.nodup_cons.1 h
    have := ih h2
    by_cases e : x = q
    · subst e
      have h3 : l.contains x = false := by simpa using h1
      rw [h3] at this
      simp only [List.map_cons, List.filter_cons, beq_self_eq_true, if_true, this, List.contains_cons, Bool.true_or]
      simp
    · have h3 : (x == q) = false := by simpa using e
      have h4 : (q == x) = false := by simpa using fun k => e k.symm
      simp only [List.map_cons, List.filter_cons, h3, Bool.false_eq_true, if_false, List.contains_cons, h4, Bool.false_or]
      exact this
theorem turnF_all {G : List (List Nat)} (hG : Cp.RG G) (q : Nat) (hq : q < G.length) : turnF (Cp.edges G) q = natI (Cp.row (Cp.turnR G) q) := by
  rw [Cp.row_turn q hq]
  unfold turnF Cp.edges natI
  generalize List.range G.length = l
  induction l with
  | nil => rfl
  | cons a l ih =>
    rw [List.flatMap_cons, List.filter_append, List.map_append, ih, turn_row1 a q ((hG.rise a).imp (fun h => Nat.ne_of_lt h)), List.filter_cons]
    by_cases h : (Cp.row G a).contains q = true
    · rw [if_pos h, if_pos h]; rfl
    · rw [if_neg h, if_neg h]; rfl
theorem turnF_len {G : List (List Nat)} (hG : Cp.RG G) {pre r : List (Nat × Nat)} (h : pre ++ r = Cp.edges G) (q : Nat) : (turnF pre q).length ≤ 4096 := by
  have h1 := Cp.edges_len hG
  rw [← h, List.length_append] at h1
  unfold turnF
  rw [List.length_map]
  have := List.length_filter_le (fun e : Nat × Nat => e.2 == q) pre
  omega
theorem turn_tab {G : List (List Nat)} (hG : Cp.RG G) : (List.range G.length).map (turnF (Cp.edges G)) = Cp.intsG (Cp.turnR G) := by
  apply List.ext_getElem?
  intro i
  unfold Cp.intsG
  rw [List.getElem?_map, List.getElem?_map]
  by_cases h : i < G.length
  · have h2 : i < (Cp.turnR G).length := by rw [Cp.turn_len]; exact h
    rw [List.getElem?_range h, List.getElem?_eq_getElem h2, Option.map_some, Option.map_some, turnF_all hG i h]
    unfold Cp.row natI
    simp [h2]
  · rw [List.getElem?_eq_none (by simpa using h), List.getElem?_eq_none (by rw [Cp.turn_len]; omega)]; rfl

structure TurnAt (w : World) (b n : Nat) (frm : Nat → List Int) (FS : List Is) (W : World) : Prop where
  chg : Chg [] w W
  base : w.heap.size = b
  own : OwnIs b W (some ⟨b, 0, none⟩) n FS
  box : W.heap[b + 1]? = some (.cells #[.slice (some ⟨b, 0, none⟩) n n] 22 (0, 0))
  frm : FS.map (·.2.2) = (List.range n).map frm
section
variable {w W W' : World} {b n : Nat} {frm : Nat → List Int} {FS : List Is}
theorem TurnAt.len (h : TurnAt w b n frm FS W) : FS.length = n := by
  have := congrArg List.length h.frm
  simpa using this
theorem TurnAt.stays (B : Nat) (hB : b ≤ B) : Stays B (TurnAt w b n frm FS) :=
  ⟨fun h hc => ⟨h.chg.tr hc, h.base, h.own.chg0 hc, hc.heap h.box (by simp), h.frm⟩,
   fun h ht => ⟨(Stays.since B [] w (by rw [h.base]; exact hB)).turn h.chg ht, h.base, (OwnIs.stays B _ _ _ _).turn h.own ht, ht.heap h.box rfl, h.frm⟩⟩
theorem TurnAt.chg0 (h : TurnAt w b n frm FS W) (hc : Chg [] W W') : TurnAt w b n frm FS W' := (TurnAt.stays b (Nat.le_refl b)).chg h hc
theorem TurnAt.putF (h : TurnAt w b n frm FS W) {q : Nat} (hq : q < FS.length) {p' : Is} {W1 : World} (hg : Chg (FS[q].own.toList) W W1) (hp : FreshInts b W1 p'.1 p'.2.1 p'.2.2) (ho : p'.own = FS[q].own ∨ ∃ k, p'.own = some k ∧ W.heap.size ≤ k) :
    TurnAt w b n (Cp.upd frm q p'.2.2) (FS.set q p') (W1.setCell ⟨b, q, none⟩ p'.cell) ∧ Chg [b] W1 (W1.setCell ⟨b, q, none⟩ p'.cell) := by
  obtain ⟨g, e, -, -, -, -, h6, h7⟩ := h.own.put hq hg hp ho
  obtain rfl : b = g := by simpa using e
  have hn4 : b + 1 ∉ FS[q].own.toList := fun hm => ownsRow_ne (h.own.each _ (List.getElem_mem hq)) h.box (by decide) (Option.mem_toList.1 hm)
  refine ⟨⟨?_, h.base, h6, h7.heap (hg.heap h.box hn4) (by simp), ?_⟩, h7⟩
  · refine (h.chg.trans hg (fun j hj => .inr ?_)).trans h7 (fun j hj => .inr (by rw [List.mem_singleton.1 hj, h.base]; omega))
    have := (row_lt (h.own.each _ (List.getElem_mem hq)) (k := j) (by simpa using hj)).1
    rw [h.base]; omega
  · rw [List.map_set, h.frm, Cp.set_range]
end
theorem turn_start (w : World) (b n : Nat) (o6 : Obj) (hb : w.heap.size = b) (hn : n ≤ 64) :
    TurnAt w b n (turnF []) (List.replicate n (none, 0, [])) (((w.alloc (rowN n)).alloc (Obj.cells #[.slice (some ⟨b, 0, none⟩) n n] 22)).alloc o6) ∧
    (((w.alloc (rowN n)).alloc (Obj.cells #[.slice (some ⟨b, 0, none⟩) n n] 22)).alloc o6).heap[b + 2]? = some o6 ∧
    (((w.alloc (rowN n)).alloc (Obj.cells #[.slice (some ⟨b, 0, none⟩) n n] 22)).alloc o6).heap.size = b + 3 := by
  obtain ⟨wa, ea⟩ : ∃ wa, wa = w.alloc (rowN n) := ⟨_, rfl⟩
  rw [← ea]
  obtain ⟨wb, eb⟩ : ∃ wb, wb = wa.alloc (Obj.cells #[Value.slice (some ⟨b, 0, none⟩) n n] 22) := ⟨_, rfl⟩
  rw [← eb]
  obtain ⟨wf, ef⟩ : ∃ wf, wf = wb.alloc o6 := ⟨_, rfl⟩
  rw [← ef]
  have za : wa.heap.size = b + 1 := by rw [ea, ← hb]; simp
  have zb : wb.heap.size = b + 2 := by rw [eb]; simp [za]
  have zf : wf.heap.size = b + 3 := by rw [ef]; simp [zb]
  have cf : Chg [] wb wf := by rw [ef]; exact (Chg.refl [] wb).alloc _
  have cb : Chg [] wa wf := by rw [eb] at cf; exact ((Chg.refl [] wa).alloc _).tr cf
  have ca : Chg [] w wf := by rw [ea] at cb; exact ((Chg.refl [] w).alloc _).tr cb
  have h0 : wa.heap[b]? = some (rowN n) := by rw [ea, ← hb]; exact heap_alloc_same _ _
  have h1 : wb.heap[b + 1]? = some (.cells #[.slice (some ⟨b, 0, none⟩) n n] 22 (0, 0)) := by rw [eb, ← za]; exact heap_alloc_same _ _
  have h5 : wf.heap[b + 2]? = some o6 := by rw [ef, ← zb]; exact heap_alloc_same _ _
  refine ⟨⟨ca, hb, ⟨?_, fun p hp => ?_, ?_⟩, cf.heap h1 (by simp), ?_⟩, h5, zf⟩
  · rw [List.length_replicate, List.map_replicate]
    exact rowN_own (cb.heap h0 (by simp)) (Nat.le_refl _) (by simp only [maxLen]; omega)
  · rw [List.eq_of_mem_replicate hp]
    exact World.ownsRow_nil _ _ _ _
  · refine List.Pairwise.imp_of_mem (R := fun _ _ => True) (fun {p q} hp hq _ k hk => ?_) (List.pairwise_iff_getElem.2 (fun _ _ _ _ _ => trivial))
    rw [List.eq_of_mem_replicate hp] at hk
    cases hk
  · rw [List.map_replicate, show (List.range n).map (turnF []) = (List.range n).map (fun _ => ([] : List Int)) from List.map_congr_left (fun p _ => rfl), List.map_const', List.length_range]
end Go.Proofs.Ytplpboknmhgpiaa
set_option linter.unusedVariables false
set_option linter.unusedSimpArgs false
set_option linter.unnecessarySimpa false
namespace Go.Proofs.Ytplpboknmhgpiaa
open Go.RowKit Go.MapKept Go.Shelf

section
attribute [local go_sem] Oper.semAt_some
set_option maxRecDepth 100000 in
set_option maxHeartbeats 16000000 in
theorem compTurn_any (w : World) (ga : Option Addr) (n gc : Nat) (VG : List Is) (hn : n = VG.length) (hgc : n ≤ gc ∧ gc ≤ 9223372036854775807) (hx : IntRows w ga VG) :
    Calls Try.prog 22 #[.slice ga n gc] w (TabP w (Cp.turnI (VG.map (·.2.2)))) := by
  obtain ⟨X, hX⟩ : ∃ X, X = VG.map (·.2.2) := ⟨_, rfl⟩
  rw [← hX]
  obtain ⟨r1, hr1⟩ : ∃ r1, r1 = Cp.rightI X := ⟨_, rfl⟩
  have hR := rightC_any w ga n gc VG hn (by omega) hx
  rw [← hX, ← hr1] at hR
  have hnX : n = X.length := by rw [hn, hX, List.length_map]
  have H := Lib.hid (And.intro hn (And.intro hx (And.intro hX (And.intro hr1 (And.intro hR hnX)))))
  clear hn hx hX hr1 hR hnX
  refine (callsIn_wide (n := 3)).1 ?_
  refine callsIn_of_wp_marks Try.func22 rfl trivial ?_ rfl
  simp only [Try.ntmps22, List.size_toArray, List.length_cons, List.length_nil, Nat.reduceAdd, Nat.reduceSub, Array.replicate_succ, Array.replicate_zero, List.push_toArray, List.append_toArray, List.nil_append, List.cons_append]
  refine wpIn_wide.2 ?_
  go_wp2_with fail
  refine H.out.2.2.2.2.1.mono ?_
  rintro e w1 ⟨rfl, hc1⟩
  have H1 := Lib.hid hc1
  clear hc1
  cases r1 with
  | false =>
    go_wp2_with fail
    refine leave_none (v := .slice none 0 0) (by simp [results, Try.results22, go_sem]) ?_
    exact ⟨none, 0, [], rfl, OwnIs.nil _ _, by unfold Cp.turnI; rw [← H.out.2.2.2.1]; rfl, H1.out⟩
  | true =>
    have hr := H.out.2.2.2.1.symm
    have hRG := Cp.right_RG hr
    obtain ⟨G, hG⟩ : ∃ G, G = Cp.toG X := ⟨_, rfl⟩
    have hnG : n = G.length := by rw [hG, Cp.toG_len]; exact H.out.2.2.2.2.2
    have hVG : VG.map (·.2.2) = Cp.intsG G := by rw [← H.out.2.2.1, hG, Cp.ints_toG hr]
    rw [← hG] at hRG
    have hn64 : n ≤ 64 := by rw [hnG]; exact hRG.few
    obtain ⟨b, hb⟩ : ∃ b, b = w1.heap.size := ⟨_, rfl⟩
    have hmk2 := fun W => run_nils n (by omega) W
    have HG := Lib.hid (And.intro hr (And.intro hRG (And.intro hG (And.intro hnG hVG))))
    clear hr hRG hG hnG hVG
    go_wp2_with fail
    refine (all_any _ _ _ _).mono ?_
    rintro e w6 ⟨rfl, rfl⟩
    simp only [← hb, World.size_alloc, Nat.add_assoc, Nat.reduceAdd]
    obtain ⟨hO, hbg, zf⟩ := turn_start w1 b n (Obj.cells #[Value.slice ga n gc] 40) hb.symm hn64
    obtain ⟨wf, ef⟩ : ∃ wf, wf = ((w1.alloc (rowN n)).alloc (Obj.cells #[.slice (some ⟨b, 0, none⟩) n n] 22)).alloc (Obj.cells #[Value.slice ga n gc] 40) := ⟨_, rfl⟩
    rw [← ef] at hO hbg zf ⊢
    have hgives := Edges_gives w wf ga n gc VG G HG.out.2.1 HG.out.2.2.2.1 HG.out.2.2.2.2 H.out.2.1 hgc (b + 2) hbg (H1.out.tr hO.chg)
    have HO := Lib.hid (And.intro hO hgives)
    have hwf0 : w.heap.size ≤ wf.heap.size := (H1.out.tr hO.chg).size
    have HB := Lib.hid (And.intro hb zf)
    clear hO hgives ef hbg hmk2 hb zf
    go_wp2_with fail
    refine (wpIn_wide (n := 3)).1 ?_
    refine range_gives (n := 3) (gf := 52) (lb := #[.pointer (some ⟨b + 2, 0, none⟩)]) rfl (enters_of Try.func52 (by kernel_rfl) rfl) HO.out.2 (fun pre x => Stays.pure _) ?hK (Chg.refl [] _) (fun _ => rfl)
      (fun pre W => ∃ FS, TurnAt w1 b n (turnF pre) FS W) (fun _ _ _ => False)
      (fun pre => Stays.ex fun FS => TurnAt.stays _ (by have := HB.out.2; omega)) (fun _ _ => Stays.pure _) ?h0
      (fun x a' W => a' = { tmps := #[.slice ga n gc, undef, .slice none 0 0, .pointer (some ⟨b + 1, 0, none⟩), .int .i64 x.1, .int .i64 x.2, .slice ga n gc, .bool true, .bool false, .slice ga n gc, .int .i64 n, .slice (some ⟨b, 0, none⟩) n n, .slice ga n gc, .func (.func 52) #[] #[.pointer (some ⟨b + 2, 0, none⟩)], .int .i64 x.1, .int .i64 x.2, undef, undef, undef, undef, undef, undef, undef, undef, undef, undef, undef], defers := [] }) (fun x a' => Stays.pure _) ?assign ?body ?done ?stop
    case hK =>
      rintro pre x A A1 A2 C C' hc ht k1 ht2 hA
      obtain ⟨l1, hl1, hc1⟩ := ht.chg
      obtain ⟨l2, hl2, hc2⟩ := ht2.chg
      exact (k1 ((hA.tr hc).trans hc1 (fun j hj => .inr (by rw [List.mem_singleton.1 hj]; omega)))).trans hc2 (fun j hj => .inr (by rw [List.mem_singleton.1 hj]; omega))
    case h0 => exact ⟨_, HO.out.1⟩
    case assign =>
      rintro l pre x W K hi hx hK
      gi_wp2
      exact hK _ _ (Chg.refl _ _) rfl
    case body =>
      rintro l pre ⟨xa, xb⟩ a' W ⟨FS, hI⟩ hx rfl
      dsimp only
      obtain ⟨e1, e2⟩ := Cp.mem_edges.1 (hx.subset (show (xa, xb) ∈ pre ++ [(xa, xb)] by simp))
      have e3 := HG.out.2.1.lt _ _ e2
      dsimp only at e1 e2 e3
      rw [← HG.out.2.2.2.1] at e1 e3
      have hqF : xb < FS.length := by rw [hI.len]; exact e3
      obtain ⟨pq, hpqe⟩ : ∃ pq, pq = FS[xb] := ⟨_, rfl⟩
      have h5p := hI.own.each _ (List.getElem_mem hqF)
      obtain ⟨g9, eg, -, h5c⟩ := hI.own.at hqF
      obtain rfl : b = g9 := by simpa using eg
      rw [← hpqe] at h5p h5c
      have h5n3 : b ∉ pq.own.toList := fun hm => by
        have hm2 := Option.mem_toList.1 hm
        obtain ⟨cur, hcur⟩ := (row_beyond hI.own.row (j := b) rfl).2.2
        exact ownsRow_ne h5p hcur (by decide) hm2
      have h5n4 : b + 1 ∉ pq.own.toList := fun hm => ownsRow_ne h5p hI.box (by decide) (Option.mem_toList.1 hm)
      have hzs : pq.2.2 = turnF pre xb := by
        have h1 := congrArg (fun l => l[xb]?) hI.frm
        simp only [List.getElem?_map, List.getElem?_eq_getElem hqF, List.getElem?_range e3, Option.map_some, Option.some.injEq] at h1
        rw [hpqe, h1]
      have h5l : pq.2.2.length ≤ 100000 := by
        obtain ⟨r, hr⟩ := hx
        rw [List.append_assoc] at hr
        have := turnF_len HG.out.2.1 hr xb
        rw [hzs]; omega
      have h5B : b ≤ W.heap.size := by have := lt_of_block hI.box; omega
      have H5 := Lib.hid (And.intro hI (And.intro h5p (And.intro h5n3 (And.intro h5n4 (And.intro (cells1 hI.box) (And.intro h5c (And.intro h5l (And.intro h5B (And.intro hpqe hzs)))))))))
      clear hI hx h5p h5n3 h5n4 h5c h5l h5B hpqe hzs eg e2
      gi_wp2_with fail
      refine round_region_any (by kernel_rfl) (by rintro ⟨a, w, h⟩; exact h) (by kernel_rfl) ?_
      refine wpAny_mix (by kernel_rfl) [16, 17, 18, 19, 20, 21, 22, 23, 24, 25] (by kernel_rfl) 7 8 (by decide) (by decide) (fun rI rV => match rI with | 0 => rV = .slice (some ⟨b, 0, none⟩) n n | 1 => rV = .int .i64 xb | 2 => rV = .slice (some ⟨b, 0, none⟩) n n | 3 => rV = .int .i64 xb | 4 => rV = .pointer (some ⟨b, xb, none⟩) | 5 => rV = pq.cell | 6 => rV = .int .i64 xa | 7 => True | 8 => True | 9 => rV = .pointer (some ⟨b, xb, none⟩) | _ => True) (MixF b W pq xa) ?h0M6 ?hstepM6 ?hlastM6
      case h0M6 =>
        intro v u
        exact MixF.start _ _ _ _ _ _
      case hstepM6 =>
        intro rI rH us W l1 l2 hJ hl1 hl2 hw1 hdep K hK
        have hiN : rI < 10 := rH
        simp only [actU, Act.put, List.setIfInBounds_toArray, List.set_cons_succ, List.set_cons_zero, Nat.reduceAdd] at hK ⊢
        have hcq := hJ.2.1
        have y4 := hcq.cell H5.out.2.2.2.2.1 H5.out.2.2.2.1
        have y3 := hcq.cell H5.out.2.2.2.2.2.1 H5.out.2.2.1
        rcases (show rI = 0 ∨ rI = 1 ∨ rI = 2 ∨ rI = 3 ∨ rI = 4 ∨ rI = 5 ∨ rI = 6 ∨ rI = 7 ∨ rI = 8 ∨ rI = 9 by omega) with rfl | rfl | rfl | rfl | rfl | rfl | rfl | rfl | rfl | rfl
        · simp only [List.getD_cons_succ, List.getD_cons_zero, List.setIfInBounds_toArray, List.set_cons_succ, List.set_cons_zero] at hK ⊢
          refine wpOp_at rfl rfl ?_
          go_simp
          exact hK _ _ _ rfl hJ rfl
        · simp only [List.getD_cons_succ, List.getD_cons_zero, List.setIfInBounds_toArray, List.set_cons_succ, List.set_cons_zero] at hK ⊢
          refine wpOp_at rfl rfl ?_
          go_simp
          exact hK _ _ _ rfl hJ rfl
        · simp only [List.getD_cons_succ, List.getD_cons_zero, List.setIfInBounds_toArray, List.set_cons_succ, List.set_cons_zero] at hK ⊢
          refine wpOp_at rfl rfl ?_
          go_simp
          exact hK _ _ _ rfl hJ rfl
        · simp only [List.getD_cons_succ, List.getD_cons_zero, List.setIfInBounds_toArray, List.set_cons_succ, List.set_cons_zero] at hK ⊢
          refine wpOp_at rfl rfl ?_
          go_simp
          exact hK _ _ _ rfl hJ rfl
        · have l2 := hdep 2 (by kernel_rfl)
          replace l2 : us 2 = .slice (some ⟨b, 0, none⟩) n n := l2
          have l3 := hdep 3 (by kernel_rfl)
          replace l3 : us 3 = .int .i64 xb := l3
          simp only [List.getD_cons_succ, List.getD_cons_zero, List.setIfInBounds_toArray, List.set_cons_succ, List.set_cons_zero, l2, l3] at hK ⊢
          refine wpOp_at rfl rfl ?_
          go_simp
          exact hK _ _ _ rfl hJ rfl
        · have l4 := hdep 4 (by kernel_rfl)
          replace l4 : us 4 = .pointer (some ⟨b, xb, none⟩) := l4
          simp only [List.getD_cons_succ, List.getD_cons_zero, List.setIfInBounds_toArray, List.set_cons_succ, List.set_cons_zero, l4] at hK ⊢
          refine wpOp_at rfl rfl ?_
          go_simp
          exact hK _ _ _ rfl hJ rfl
        · simp only [List.getD_cons_succ, List.getD_cons_zero, List.setIfInBounds_toArray, List.set_cons_succ, List.set_cons_zero] at hK ⊢
          refine wpOp_at rfl rfl ?_
          go_simp
          exact hK _ _ _ rfl hJ rfl
        · have l6 := hdep 6 (by kernel_rfl)
          replace l6 : us 6 = .int .i64 xa := l6
          simp only [List.getD_cons_succ, List.getD_cons_zero, List.setIfInBounds_toArray, List.set_cons_succ, List.set_cons_zero, l6] at hK ⊢
          obtain rfl := hl1 rfl
          refine wpOp_at rfl rfl ?_
          go_simp
          exact hK _ _ _ rfl hJ.make trivial
        · have l5 := hdep 5 (by kernel_rfl)
          replace l5 : us 5 = pq.cell := l5
          simp only [List.getD_cons_succ, List.getD_cons_zero, List.setIfInBounds_toArray, List.set_cons_succ, List.set_cons_zero, l5] at hK ⊢
          obtain rfl := hl2 rfl
          obtain rfl := hw1 (by kernel_rfl)
          refine wpOp_at rfl rfl ?_
          refine MixF.app hJ H5.out.2.2.2.2.2.2.2.1 H5.out.2.1 H5.out.2.2.2.2.2.2.1 (.tmp 21) (.tmp 23) rfl rfl rfl ?_
          intro v W9 hv
          exact hK _ _ _ rfl hv trivial
        · have l0 := hdep 0 (by kernel_rfl)
          replace l0 : us 0 = .slice (some ⟨b, 0, none⟩) n n := l0
          have l1 := hdep 1 (by kernel_rfl)
          replace l1 : us 1 = .int .i64 xb := l1
          simp only [List.getD_cons_succ, List.getD_cons_zero, List.setIfInBounds_toArray, List.set_cons_succ, List.set_cons_zero, l0, l1] at hK ⊢
          refine wpOp_at rfl rfl ?_
          go_simp
          exact hK _ _ _ rfl hJ rfl
      case hlastM6 =>
        intro us Wm hJ hall
        have l0 := hall 0 (by decide)
        replace l0 : us 0 = .slice (some ⟨b, 0, none⟩) n n := l0
        have l1 := hall 1 (by decide)
        replace l1 : us 1 = .int .i64 xb := l1
        have l2 := hall 2 (by decide)
        replace l2 : us 2 = .slice (some ⟨b, 0, none⟩) n n := l2
        have l3 := hall 3 (by decide)
        replace l3 : us 3 = .int .i64 xb := l3
        have l4 := hall 4 (by decide)
        replace l4 : us 4 = .pointer (some ⟨b, xb, none⟩) := l4
        have l5 := hall 5 (by decide)
        replace l5 : us 5 = pq.cell := l5
        have l6 := hall 6 (by decide)
        replace l6 : us 6 = .int .i64 xa := l6
        have l9 := hall 9 (by decide)
        replace l9 : us 9 = .pointer (some ⟨b, xb, none⟩) := l9
        simp only [actU, Act.put, List.setIfInBounds_toArray, List.set_cons_succ, List.set_cons_zero, Nat.reduceAdd, l0, l1, l2, l3, l4, l5, l6, l9]
        clear hall l0 l1 l2 l3 l4 l5 l6 l9
        obtain ⟨-, hcq, -, -, h2⟩ := hJ
        obtain ⟨p9, e9, hz9, hf9, ho9⟩ := h2 rfl
        rw [e9]
        have hpqe := H5.out.2.2.2.2.2.2.2.2.1
        rw [H5.out.2.2.2.2.2.2.2.2.2] at hz9
        rw [hpqe] at hcq ho9
        obtain ⟨g9, eg, -, -, cc9, ff9, -, -⟩ := H5.out.1.own.put hqF hcq hf9 ho9
        obtain rfl : b = g9 := by simpa using eg
        have hput := H5.out.1.putF hqF hcq hf9 ho9
        have H9 := Lib.hid (And.intro hput (And.intro hcq hz9))
        clear hput hcq hz9 hf9 ho9 hpqe e9 h2 eg
        refine wpOp_at rfl rfl ?_
        unfold Is.cell
        go_simp
        obtain ⟨⟨hO9, hc9⟩, hcq, hz9⟩ := H9.out
        have hcT : Chg (b :: FS[xb].own.toList) W (Wm.setCell ⟨b, xb, none⟩ p9.cell) := (hcq.mono (T := b :: FS[xb].own.toList) (fun j hj => .inl (by simp only [List.mem_cons]; exact .inr hj))).trans hc9 (fun j hj => .inl (by rw [List.mem_singleton.1 hj]; simp))
        have hown : ∀ k, k ∈ FS[xb].own.toList → b ≤ k ∧ ∃ cur t m, W.heap[k]? = some (.cells cur t m) := fun k hk => by
          obtain ⟨h1, -, cur, h2⟩ := row_beyond (H5.out.1.own.each _ (List.getElem_mem hqF)) (Option.mem_toList.1 hk)
          exact ⟨h1, cur, _, _, h2⟩
        have hsz := HB.out.2
        have hbw := H1.out.size
        have hbb := HB.out.1
        refine ⟨keepsFrom_of_chg hcT (fun k hk => ?_), fun hA => hA.trans hcT (fun j hj => .inr ?_), FS.set xb p9, ?_⟩
        · rcases List.mem_cons.1 hk with e | hk
          · exact .inl (by omega)
          · exact .inr (hown k hk).2
        · rcases List.mem_cons.1 hj with e | hj
          · omega
          · have := (hown j hj).1; omega
        · rw [turnF_snoc, ← hz9]
          exact hO9
    case done =>
      rintro D xs W hD hS ⟨FS, hI⟩ hd
      subst hS
      have xb := cells1 hI.box
      have hIl := hI.len
      have HI := Lib.hid (And.intro hI (And.intro hd (And.intro hD hIl)))
      clear hI hd hIl
      dsimp only
      go_wp2_with fail
      refine leave_one (v := .slice (some ⟨b, 0, none⟩) n n) (B := wf.heap.size) (I := fun W' => OwnIs b W' (some ⟨b, 0, none⟩) n FS ∧ Chg [] w W') HI.out.2.1 hD ((OwnIs.stays _ _ _ _ _).and (Stays.since _ _ _ hwf0)) ⟨HI.out.1.own, H1.out.tr HI.out.1.chg⟩ ?_
      rintro W' ⟨hO9, hc9⟩
      refine ⟨by simp [results, Try.results22, go_sem], some ⟨b, 0, none⟩, n, FS, by rw [HI.out.2.2.2], hO9.base (by have := H1.out.size; have := HB.out.1; omega), ?_, hc9⟩
      rw [HI.out.1.frm, HG.out.2.2.2.1, turn_tab HG.out.2.1]
      unfold Cp.turnI
      rw [HG.out.1, if_pos rfl, HG.out.2.2.1]
    case stop =>
      rintro D c pre W hD _ h _
      exact h.elim
end
end Go.Proofs.Ytplpboknmhgpiaa

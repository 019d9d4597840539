/-
  The document's answer of layer 12: to whom a rule leads, the way there, whether it goes left.
  Conditions: none.
-/
import Derived.Test.YtibgfgfmljhimaaGreatLeSf4
import Derived.Test.YtibgfgfmljhimaaGreatLeLfW
set_option linter.unusedVariables false
set_option linter.unusedSimpArgs false
set_option linter.unnecessarySimpa false
namespace Go.Proofs.YtibgfgfmljhimaaGreat
open Go.RowKit Go.MapKept Go.Shelf

theorem tr_in {n : Nat} {G : List (List Int)} (hG : GraphOk n G) {i k : Nat} (h : Tr G i k) : k < n := by
  induction h with
  | one h => have := hG.at _ _ h; omega
  | step _ _ ih => exact ih
theorem toL_next {g : Gr} (hr : rightB g = true) {i : Nat} (hi : i < g.rules.length) : toL g i = pickL g.rules.length (fun k => decide (0 ≤ nxtI (graphG g) i k)) := by
  have hG := graph_ok hr
  have hu := graph_up hr
  have key : ∀ k, (walkL (graphG g) i).1.getD k false = decide (0 ≤ nxtI (graphG g) i k) := fun k => by
    rw [Bool.eq_iff_iff, walkL_met hG, ← wayI_tr hG hu, decide_eq_true_eq]
    have := nxt_neg hG hu (i := i) (k := k)
    constructor
    · intro h
      have := mt this.1.1 h
      omega
    · intro h e
      have := this.1.2 e
      omega
  rw [toL, if_pos (show inR g i from ⟨by omega, by omega, hr⟩), Int.toNat_natCast]
  unfold pickB
  have hl := (walkL_ok hG i).len
  rw [hl]
  have h2 : pickL 32 (fun k => (walkL (graphG g) i).1.getD k false) = pickL 32 (fun k => decide (0 ≤ nxtI (graphG g) i k)) := by
    congr 1
    funext k
    exact key k
  rw [h2]
  refine pickL_ext (right_sizes hr).2.1 (fun r h1 h3 => ?_)
  rw [← key]
  cases h : (walkL (graphG g) i).1.getD r false with
  | false => rfl
  | true =>
    have := tr_in hG ((walkL_met hG i r).1 h)
    omega
theorem way_out {n : Nat} {G : List (List Int)} (hG : GraphOk n G) (hr : ∀ zs ∈ G, zs.Pairwise (· < ·)) {i : Nat} {k : Int} (hk : ¬ (0 ≤ k ∧ k < n)) : wayI G i k = [] := by
  rcases wayI_spec hG hr i k with ⟨h, _⟩ | ⟨p, hb, _⟩
  · exact h
  · exfalso
    have hh := hb.head
    cases hb.wk with
    | one h => simp only [List.head?_cons, Option.some.injEq] at hh; subst hh; exact hk (hG.at _ _ h)
    | more _ h => simp only [List.head?_cons, Option.some.injEq] at hh; subst hh; exact hk (hG.at _ _ h)
theorem goes_way (g : Gr) (i : Int) : goesB g i = decide (0 < (wayL g i i).length) := by
  by_cases h : inR g i
  · obtain ⟨h1, h2, hr⟩ := h
    obtain ⟨m, rfl⟩ : ∃ m : Nat, i = (m : Int) := ⟨i.toNat, by omega⟩
    have hm : m < g.rules.length := by omega
    rw [Bool.eq_iff_iff, goesB_iff hr hm, wayL_eq hr hm, ← wayI_tr (graph_ok hr) (graph_up hr), decide_eq_true_eq]
    exact List.length_pos_iff.symm
  · unfold goesB wayL
    rw [decide_eq_false h, if_neg h]
    rfl

set_option maxRecDepth 100000 in
set_option maxHeartbeats 16000000 in
theorem ref12To_any (w : World) (a1 : Option Addr) (n1 c1 : Nat) (a2 : Option Addr) (n2 c2 : Nat) (g : Gr) (hg : GramAt w a1 n1 c1 a2 n2 c2 g) (i : Int) :
    Calls Tryz.prog 60 #[.agg #[.slice a1 n1 c1, .slice a2 n2 c2], .int .i64 i] w (ToldInts w (toL g i)) := by
  obtain ⟨i0, hi0, hz0, hz1, hz2⟩ := info_parts Tryz.infoInt
  obtain ⟨A, hA⟩ : ∃ A, A = toL g i := ⟨_, rfl⟩
  rw [← hA]
  have H := Lib.hid (And.intro hg hA)
  clear hg hA
  go_enter Tryz.func60, Tryz.ntmps60
  go_wp2_with fail
  refine (ref12Graph_any _ a1 n1 c1 a2 n2 c2 g (H.out.1.keep ((Chg.refl [] w).alloc _).kp)).mono ?_
  rintro e w1 ⟨xa, xc, VS, rfl, hV, hO, h1⟩
  obtain ⟨n, hn⟩ : ∃ n, n = (graphG g).length := ⟨_, rfl⟩
  rw [← hn]
  have HC := Lib.hid (And.intro (((Chg.refl [] w).alloc (.cells #[.slice a1 n1 c1, .slice a2 n2 c2] 25)).tr h1) (And.intro hV (And.intro hO hn)))
  have hgl : (rightB g = true ∧ n = g.rules.length) ∨ (rightB g = false ∧ n = 0) := by
    cases h : rightB g with
    | true => exact .inl ⟨rfl, by rw [hn, graphG_len h]⟩
    | false => exact .inr ⟨rfl, by rw [hn]; simp [graphG, h]⟩
  have HG := Lib.hid hgl
  clear h1 hV hO hn hgl
  by_cases hi0' : i < 0
  · have hAv : A = [] := by rw [H.out.2, toL, if_neg (fun h => by have := h.1; omega)]
    subst hAv
    go_wp2_with fail
    go_ret
    exact ⟨none, 0, 0, rfl, rfl, World.ownsRow_nil _ _ _ _, HC.out.1⟩
  · obtain ⟨m, rfl⟩ : ∃ m : Nat, i = (m : Int) := ⟨i.toNat, by omega⟩
    by_cases hmn : n ≤ m
    · have hAv : A = [] := by
        rw [H.out.2, toL, if_neg (fun h => ?_)]
        rcases HG.out with ⟨_, e⟩ | ⟨e, _⟩
        · have := h.2.1; omega
        · have := h.2.2; rw [e] at this; cases this
      subst hAv
      have hd0 : decide ((m : Int) < 0) = false := decide_eq_false (by omega)
      have hd1 : decide ((n : Int) ≤ m) = true := decide_eq_true (by omega)
      have hd2 : decide (n ≤ m) = true := decide_eq_true hmn
      go_wp2_with fail
      go_ret
      exact ⟨none, 0, 0, rfl, rfl, World.ownsRow_nil _ _ _ _, HC.out.1⟩
    · obtain ⟨hr, hnr⟩ : rightB g = true ∧ n = g.rules.length := by
        rcases HG.out with h | ⟨_, h⟩
        · exact h
        · omega
      have hmr : m < g.rules.length := by omega
      have hX : GrRow w1 xa n xc (graphG g) := HC.out.2.2.1.graph HC.out.2.1 (by rw [hnr]; exact graph_ok hr) (graph_up hr)
      obtain ⟨G, hGe⟩ : ∃ G, G = graphG g := ⟨_, rfl⟩
      obtain ⟨F, hF⟩ : ∃ F : Nat → Bool, F = fun k => decide (0 ≤ nxtI G m k) := ⟨_, rfl⟩
      have hAv : A = pickL n F := by rw [H.out.2, toL_next hr hmr, hF, hGe, hnr]
      rw [← hGe] at hX
      have hml : m < n := by omega
      have hn32 : n ≤ 32 := hX.ok.few
      have HX := Lib.hid (And.intro hX (And.intro hF hAv))
      have hd0 : decide ((m : Int) < 0) = false := decide_eq_false (by omega)
      have hd1 : decide ((n : Int) ≤ m) = false := decide_eq_false (by omega)
      have hd2 : decide (n ≤ m) = false := decide_eq_false hmn
      clear hr hnr hmr hX hGe hF hAv hi0' hmn
      go_wp2_with fail
      clear hd0 hd1 hd2
      go_loopg [7, 6] n (fun dd iv ov wr => ∃ (k : Nat) (oa : Option Addr) (q oc : Nat), dd = n - k ∧ k ≤ n ∧ iv = .int .i64 k ∧ ov = .slice oa q oc ∧ q ≤ k ∧ Hid (Chg [] w1 wr ∧ FreshInts w1.heap.size wr oa oc (pickL k F) ∧ q = (pickL k F).length))
      case atStart => exact ⟨0, none, 0, 0, rfl, Nat.zero_le _, rfl, rfl, Nat.le_refl _, Lib.hid ⟨Chg.refl _ _, World.ownsRow_nil _ _ _ _, rfl⟩⟩
      case round =>
        obtain ⟨k, oa, q, oc, rfl, hk, rfl, rfl, hqk, hin⟩ := hrel
        obtain ⟨wq, rfl⟩ : ∃ wz, wz = wr := ⟨_, rfl⟩
        by_cases hkl : k < n
        · go_wp2_with fail
          refine (ref12far_any wq xa n xc G (HX.out.1.keep hin.out.1.kp) k hkl).mono ?_
          rintro e w2 ⟨da, dl, dc, rfl, ed, fd, h2⟩
          have H2 := Lib.hid (And.intro ed (And.intro fd h2))
          clear ed fd h2
          go_wp2_with fail
          refine (ref12next_any w2 xa n xc G (HX.out.1.keep (hin.out.1.tr H2.out.2.2).kp) k m hkl hml da dl dc (by rw [H2.out.1]; unfold dstL; rw [rowF_len]) (ownInts_read H2.out.2.1.own).1).mono ?_
          rintro e w3 ⟨rfl, h3⟩
          obtain ⟨nx, hnx⟩ : ∃ nx, nx = nxtI G m k := ⟨_, rfl⟩
          rw [← hnx]
          have hFk : F k = decide (0 ≤ nx) := by rw [HX.out.2.1, hnx]
          have H3 := Lib.hid (And.intro (hin.out.1.tr (H2.out.2.2.tr h3)) (And.intro hFk (H2.out.2.2.tr h3)))
          clear h3 hnx hFk
          have hrow3 : World.ownsRow w3 w1.heap.size 3 1 (.slice oa q oc) q ((pickL k F).map (Value.int .i64)) := by
            have h9 : FreshInts w1.heap.size w3 oa oc (pickL k F) := H3.out.2.2.row hin.out.2.1 (fun _ _ => by simp)
            unfold FreshInts at h9
            rw [← hin.out.2.2] at h9
            exact h9
          by_cases hnx0 : 0 ≤ nx
          · have hdn : decide (0 ≤ nx) = true := decide_eq_true hnx0
            have hnl : pickL (k + 1) F = pickL k F ++ [(k : Int)] := by rw [pickL_succ, if_pos (by rw [H3.out.2.1]; exact hdn)]
            have HN := Lib.hid hnl
            clear hnx0 hnl
            have h1' : ∀ u ∈ [Value.int .i64 (k : Int)], u.oneCell' = true := by simp [Value.oneCell']
            have h2' : q + 1 ≤ maxLen ∧ (q + 1) * 8 ≤ 140737488355328 := by simp only [maxLen]; omega
            have hnew := cells_at (w := w3.alloc (.cells #[.int .i64 (k : Int)] 3)) (heap_alloc_same _ _)
            have hcA := (Chg.refl [] w3).alloc (.cells #[.int .i64 (k : Int)] 3)
            have H4 := Lib.hid (And.intro (hcA.row hrow3 (fun _ _ => by simp)) (And.intro h1' (And.intro h2' (And.intro hnew (And.intro (Chg.tr H3.out.1 hcA).size (Chg.tr H3.out.1 hcA))))))
            clear h1' h2' hnew hcA
            have HR := Lib.hid hrow3
            clear hrow3
            go_wp2_with (at_builtin; refine wpList_append_own_at _ rfl _ _ 48 rfl w1.heap.size 3 i0 _ 1 8 Tryz.underlying48 hi0 hz0 hz1 hz2 rfl (by decide) (.slice oa q oc) q ((pickL k F).map (Value.int .i64)) rfl H4.out.1 ⟨w3.heap.size, 0, none⟩ 1 1 [.int .i64 (k : Int)] rfl rfl H4.out.2.2.2.1 H4.out.2.1 H4.out.2.2.1.1 H4.out.2.2.1.2 H4.out.2.2.2.2.1 ?_; intro v' w5 hr5 hg5 hn5 hb5; obtain ⟨a5, c5, rfl⟩ := ownsRow_slice hr5; have H5 := Lib.hid (And.intro hr5 hg5); clear hr5 hg5 hn5 hb5)
            go_roundg (n - (k + 1))
            case measure => omega
            case rel =>
              have hrw := H5.out.1
              rw [show ((pickL k F).map (Value.int .i64) ++ [Value.int .i64 (k : Int)]) = (pickL (k + 1) F).map (Value.int .i64) by rw [HN.out, List.map_append]; rfl] at hrw
              have hln : q + 1 = (pickL (k + 1) F).length := by rw [HN.out, List.length_append, ← hin.out.2.2]; rfl
              have hcw : Chg [] w1 w5 := by
                have h9 := (H3.out.1.alloc (.cells #[.int .i64 (k : Int)] 3))
                exact h9.grown H5.out.2 (fun y hy => .inr (row_beyond H4.out.1 hy).1)
              exact ⟨k + 1, a5, q + 1, c5, rfl, by omega, by go_num, rfl, by omega, Lib.hid ⟨hcw, by unfold FreshInts; rw [← hln]; exact hrw, hln⟩⟩
          · have hdn : decide (0 ≤ nx) = false := decide_eq_false hnx0
            have hnl : pickL (k + 1) F = pickL k F := by rw [pickL_succ, if_neg (by rw [H3.out.2.1, hdn]; simp), List.append_nil]
            have HN := Lib.hid hnl
            clear hnx0 hnl hrow3
            go_wp2_with fail
            go_roundg (n - (k + 1))
            case measure => omega
            case rel => exact ⟨k + 1, oa, q, oc, rfl, by omega, by go_num, rfl, by omega, Lib.hid ⟨H3.out.1, by rw [HN.out]; exact H3.out.2.2.row hin.out.2.1 (fun _ _ => by simp), by rw [HN.out]; exact hin.out.2.2⟩⟩
        · obtain rfl : n = k := by omega
          go_wp2_with fail
          go_ret
          exact ⟨oa, q, oc, rfl, by rw [HX.out.2.2]; exact hin.out.2.2, by rw [HX.out.2.2]; exact row_base hin.out.2.1 HC.out.1.size, HC.out.1.tr hin.out.1⟩

set_option maxRecDepth 100000 in
set_option maxHeartbeats 16000000 in
theorem ref12Way_any (w : World) (a1 : Option Addr) (n1 c1 : Nat) (a2 : Option Addr) (n2 c2 : Nat) (g : Gr) (hg : GramAt w a1 n1 c1 a2 n2 c2 g) (i k : Int) :
    Calls Tryz.prog 62 #[.agg #[.slice a1 n1 c1, .slice a2 n2 c2], .int .i64 i, .int .i64 k] w (ToldInts w (wayL g i k)) := by
  obtain ⟨i0, hi0, hz0, hz1, hz2⟩ := info_parts Tryz.infoInt
  obtain ⟨A, hA⟩ : ∃ A, A = wayL g i k := ⟨_, rfl⟩
  rw [← hA]
  have H := Lib.hid (And.intro hg hA)
  clear hg hA
  go_enter Tryz.func62, Tryz.ntmps62
  go_wp2_with fail
  refine (ref12Graph_any _ a1 n1 c1 a2 n2 c2 g (H.out.1.keep ((Chg.refl [] w).alloc _).kp)).mono ?_
  rintro e w1 ⟨xa, xc, VS, rfl, hV, hO, h1⟩
  obtain ⟨n, hn⟩ : ∃ n, n = (graphG g).length := ⟨_, rfl⟩
  rw [← hn]
  have HC := Lib.hid (And.intro (((Chg.refl [] w).alloc (.cells #[.slice a1 n1 c1, .slice a2 n2 c2] 25)).tr h1) (And.intro hV (And.intro hO hn)))
  have hgl : (rightB g = true ∧ n = g.rules.length) ∨ (rightB g = false ∧ n = 0) := by
    cases h : rightB g with
    | true => exact .inl ⟨rfl, by rw [hn, graphG_len h]⟩
    | false => exact .inr ⟨rfl, by rw [hn]; simp [graphG, h]⟩
  have HG := Lib.hid hgl
  clear h1 hV hO hn hgl
  have hnone : ¬ (0 ≤ i ∧ i < n ∧ 0 ≤ k ∧ k < n) → A = [] := fun h => by
    rw [H.out.2]
    by_cases hin : inR g i
    · obtain ⟨h1, h2, hr⟩ := hin
      obtain ⟨m, rfl⟩ : ∃ m : Nat, i = (m : Int) := ⟨i.toNat, by omega⟩
      rcases HG.out with ⟨_, e⟩ | ⟨e, _⟩
      · rw [wayL_eq hr (by omega)]
        exact way_out (graph_ok hr) (graph_up hr) (by omega)
      · rw [e] at hr; cases hr
    · unfold wayL
      rw [if_neg hin]
  have HNO := Lib.hid hnone
  clear hnone
  by_cases hi0' : i < 0
  · have hAv : A = [] := HNO.out (by omega)
    subst hAv
    go_wp2_with fail
    go_ret
    exact ⟨none, 0, 0, rfl, rfl, World.ownsRow_nil _ _ _ _, HC.out.1⟩
  · obtain ⟨m, rfl⟩ : ∃ m : Nat, i = (m : Int) := ⟨i.toNat, by omega⟩
    have hd0 : decide ((m : Int) < 0) = false := decide_eq_false (by omega)
    by_cases hmn : n ≤ m
    · have hAv : A = [] := HNO.out (by omega)
      subst hAv
      have hd1 : decide ((n : Int) ≤ m) = true := decide_eq_true (by omega)
      have hd2 : decide (n ≤ m) = true := decide_eq_true hmn
      go_wp2_with fail
      go_ret
      exact ⟨none, 0, 0, rfl, rfl, World.ownsRow_nil _ _ _ _, HC.out.1⟩
    · have hd1 : decide ((n : Int) ≤ m) = false := decide_eq_false (by omega)
      have hd2 : decide (n ≤ m) = false := decide_eq_false hmn
      by_cases hk0 : k < 0
      · have hAv : A = [] := HNO.out (by omega)
        subst hAv
        have hd3 : decide (k < 0) = true := decide_eq_true hk0
        go_wp2_with fail
        go_ret
        exact ⟨none, 0, 0, rfl, rfl, World.ownsRow_nil _ _ _ _, HC.out.1⟩
      · obtain ⟨p, rfl⟩ : ∃ p : Nat, k = (p : Int) := ⟨k.toNat, by omega⟩
        have hd3 : decide ((p : Int) < 0) = false := decide_eq_false (by omega)
        by_cases hpn : n ≤ p
        · have hAv : A = [] := HNO.out (by omega)
          subst hAv
          have hd4 : decide ((n : Int) ≤ p) = true := decide_eq_true (by omega)
          have hd5 : decide (n ≤ p) = true := decide_eq_true hpn
          go_wp2_with fail
          go_ret
          exact ⟨none, 0, 0, rfl, rfl, World.ownsRow_nil _ _ _ _, HC.out.1⟩
        · have hd4 : decide ((n : Int) ≤ p) = false := decide_eq_false (by omega)
          have hd5 : decide (n ≤ p) = false := decide_eq_false hpn
          obtain ⟨hr, hnr⟩ : rightB g = true ∧ n = g.rules.length := by
            rcases HG.out with h | ⟨_, h⟩
            · exact h
            · omega
          have hX : GrRow w1 xa n xc (graphG g) := HC.out.2.2.1.graph HC.out.2.1 (by rw [hnr]; exact graph_ok hr) (graph_up hr)
          have hAw : A = wayI (graphG g) m p := by rw [H.out.2, wayL_eq hr (by omega)]
          obtain ⟨G, hGe⟩ : ∃ G, G = graphG g := ⟨_, rfl⟩
          rw [← hGe] at hX hAw
          have hml : m < n := by omega
          have hpl : p < n := by omega
          have hAl : A.length ≤ 34 := by rw [H.out.2]; exact wayL_len g m p
          have HX := Lib.hid (And.intro hX (And.intro hAw hAl))
          clear hr hnr hX hGe hAw hAl hi0' hmn hk0 hpn
          go_wp2_with fail
          clear hd0 hd1 hd2 hd3 hd4 hd5
          refine (ref12far_any w1 xa n xc G HX.out.1 p hpl).mono ?_
          rintro e w2 ⟨da, dl, dc, rfl, ed, fd, h2⟩
          have hdl : dl = n := by rw [ed]; unfold dstL; rw [rowF_len]
          subst hdl
          have H2 := Lib.hid (And.intro fd h2)
          clear ed fd h2
          have hnext : ∀ W, Chg [] w2 W → ∀ j : Nat, j < dl → Calls Tryz.prog 104 #[.slice xa dl xc, .int .i64 j, .slice da dl dc] W fun e w' => e = .returned (.int .i64 (nxtI G j p)) ∧ Chg [] W w' := fun W hW j hj =>
            ref12next_any W xa dl xc G (HX.out.1.keep (H2.out.2.tr hW).kp) p j hpl hj da dl dc rfl (by
              have h9 : FreshInts w1.heap.size W da dc (dstL G p dl) := hW.row H2.out.1 (fun _ _ => by simp)
              exact (ownInts_read h9.own).1)
          have HN := Lib.hid hnext
          clear hnext
          obtain ⟨nx, hnx⟩ : ∃ nx, nx = nxtI G m p := ⟨_, rfl⟩
          have hnb := nxt_neg HX.out.1.ok HX.out.1.rise (i := m) (k := p)
          rw [← hnx] at hnb
          have HNB := Lib.hid (And.intro hnx hnb)
          go_wp2_with fail
          refine (HN.out w2 (Chg.refl _ _) m hml).mono ?_
          rintro e w3 ⟨rfl, h3⟩
          rw [← HNB.out.1]
          have H3 := Lib.hid h3
          clear h3 hnx hnb
          by_cases hn0 : nx < 0
          · have hAv : A = [] := by rw [HX.out.2.1]; exact HNB.out.2.1.1 hn0
            subst hAv
            have hdn : decide (nx < 0) = true := decide_eq_true hn0
            go_wp2_with fail
            go_ret
            exact ⟨none, 0, 0, rfl, rfl, World.ownsRow_nil _ _ _ _, (HC.out.1.tr H2.out.2).tr H3.out⟩
          · have hdn : decide (nx < 0) = false := decide_eq_false hn0
            obtain ⟨at0, hat0⟩ : ∃ at0 : Nat, nx = (at0 : Int) := ⟨nx.toNat, by omega⟩
            have hat1 : at0 < dl := by have := HNB.out.2.2.2; omega
            have hway : ∃ q, A = (m : Int) :: (at0 : Int) :: q ∧ (q = [] → at0 = p) ∧ (q ≠ [] → at0 ≠ p ∧ wayI G at0 p = (at0 : Int) :: q) := by
              have hne : wayI G m p ≠ [] := fun h => hn0 (HNB.out.2.1.2 h)
              obtain ⟨v, q, e⟩ := way_len HX.out.1.ok HX.out.1.rise hne
              have hv : nxtI G m p = v := by unfold nxtI; rw [e]
              have hv2 : v = (at0 : Int) := by rw [← hv, ← HNB.out.1, hat0]
              obtain ⟨_, _, f1, f2, _⟩ := way_first HX.out.1.ok HX.out.1.rise e
              subst hv2
              refine ⟨q, by rw [HX.out.2.1, e], fun h => by have := f1 h; omega, fun h => ?_⟩
              obtain ⟨g1, g2⟩ := f2 h
              rw [Int.toNat_natCast] at g2
              exact ⟨fun e => g1 (by rw [e]), g2⟩
            have HW := Lib.hid hway
            subst hat0
            clear hn0 hway
            go_wp2_with fail
            obtain ⟨Q0, hQ1, hQ2, hQ3⟩ := HW.out
            obtain ⟨ql, hql⟩ : ∃ ql, ql = Q0.length := ⟨_, rfl⟩
            have hql40 : ql ≤ 40 := by
              have h9 := congrArg List.length hQ1
              have := HX.out.2.2
              simp only [List.length_cons] at h9
              omega
            have HQ := Lib.hid (And.intro hQ1 (And.intro hQ2 (And.intro hQ3 hql)))
            clear hQ1 hQ2 hQ3 hql
            have hrow0 : FreshInts w3.heap.size (w3.alloc (.cells #[.int .i64 m] 3)) (some ⟨w3.heap.size, 0, none⟩) 1 [(m : Int)] := ⟨rfl, .inr ⟨w3.heap.size, 1, _, rfl, Nat.le_refl _, heap_alloc_same _ _, Nat.le_refl _, by decide, rfl, rfl⟩⟩
            have hc4 := (Chg.refl [] w3).alloc (.cells #[.int .i64 m] 3)
            obtain ⟨w4, e4⟩ : ∃ w4, w4 = w3.alloc (.cells #[.int .i64 m] 3) := ⟨_, rfl⟩
            rw [← e4] at hrow0 hc4 ⊢
            have H4 := Lib.hid (And.intro hrow0 hc4)
            clear e4 hrow0 hc4 hdn
            have HN3 : Hid (∀ W, Chg [] w3 W → ∀ j : Nat, j < dl → Calls Tryz.prog 104 #[.slice xa dl xc, .int .i64 j, .slice da dl dc] W fun e w' => e = .returned (.int .i64 (nxtI G j p)) ∧ Chg [] W w') := Lib.hid fun W hW j hj => HN.out W (H3.out.tr hW) j hj
            refine (HN3.out w4 H4.out.2 m hml).mono ?_
            rintro e w5 ⟨rfl, h5⟩
            rw [← HNB.out.1]
            have H5 := Lib.hid h5
            clear h5
            go_wp2_with fail
            go_loopg [10, 9] ql (fun dd tv ov wr => ∃ (t ol oc q : Nat) (oa : Option Addr), dd = q + 0 ∧ q ≤ 40 ∧ tv = .int .i64 t ∧ t < dl ∧ ov = .slice oa ol oc ∧ ol ≤ 40 ∧ Hid (∃ OL Q, ol = OL.length ∧ q = Q.length ∧ A = OL ++ ((t : Int) :: Q) ∧ (Q = [] → t = p) ∧ (Q ≠ [] → t ≠ p ∧ wayI G t p = (t : Int) :: Q) ∧ FreshInts w3.heap.size wr oa oc OL ∧ Chg [] w3 wr))
            case atStart => exact ⟨at0, 1, 1, ql, _, rfl, hql40, rfl, hat1, rfl, by omega, Lib.hid ⟨[(m : Int)], Q0, rfl, HQ.out.2.2.2, HQ.out.1, HQ.out.2.1, HQ.out.2.2.1, H5.out.row H4.out.1 (fun _ _ => by simp), H4.out.2.tr H5.out⟩⟩
            case round =>
              obtain ⟨t, ol, oc, qn, oa, hdq, hd40, rfl, htl, rfl, hol, hin⟩ := hrel
              obtain ⟨wq, rfl⟩ : ∃ wz, wz = wr := ⟨_, rfl⟩
              obtain ⟨OL, Q, hI1, hI2, hI3, hI4, hI5, hI6, hI7⟩ := hin.out
              clear hin
              have hrow : World.ownsRow wq w3.heap.size 3 1 (.slice oa ol oc) ol (OL.map (Value.int .i64)) := by
                have h9 := hI6
                unfold FreshInts at h9
                rw [← hI1] at h9
                exact h9
              by_cases htp : t = p
              · have hQn : Q = [] := by
                  by_cases h : Q = []
                  · exact h
                  · exact absurd htp (hI5 h).1
                have hQ := Lib.hid (And.intro hQn htp)
                clear hQn
                have e9 : ((t : Int) == (p : Int)) = true := by simp [htp]
                have e8 : ((t : Int) != (p : Int)) = false := by simp [htp]
                clear htp
                have h1' : ∀ u ∈ [Value.int .i64 (p : Int)], u.oneCell' = true := by simp [Value.oneCell']
                have h2' : ol + 1 ≤ maxLen ∧ (ol + 1) * 8 ≤ 140737488355328 := by simp only [maxLen]; omega
                have hnew := cells_at (w := wq.alloc (.cells #[.int .i64 (p : Int)] 3)) (heap_alloc_same _ _)
                have hcA := (Chg.refl [] wq).alloc (.cells #[.int .i64 (p : Int)] 3)
                have H6 := Lib.hid (And.intro (hcA.row hrow (fun _ _ => by simp)) (And.intro h1' (And.intro h2' (And.intro hnew (And.intro (hI7.tr hcA).size (hI7.tr hcA))))))
                have HI := Lib.hid (And.intro hI1 (And.intro hI2 (And.intro hI3 (And.intro hI4 (And.intro hI5 hI7)))))
                clear h1' h2' hnew hcA hrow hI1 hI2 hI3 hI4 hI5 hI6 hI7
                go_wp2_with (at_builtin; refine wpList_append_own_at _ rfl _ _ 48 rfl w3.heap.size 3 i0 _ 1 8 Tryz.underlying48 hi0 hz0 hz1 hz2 rfl (by decide) (.slice oa ol oc) ol (OL.map (Value.int .i64)) rfl H6.out.1 ⟨wq.heap.size, 0, none⟩ 1 1 [.int .i64 (p : Int)] rfl rfl H6.out.2.2.2.1 H6.out.2.1 H6.out.2.2.1.1 H6.out.2.2.1.2 H6.out.2.2.2.2.1 ?_; intro v' w7 hr7 hg7 hn7 hb7; obtain ⟨a7, c7, rfl⟩ := ownsRow_slice hr7; have H7 := Lib.hid (And.intro hr7 hg7); clear hr7 hg7 hn7 hb7)
                go_ret
                have hrw := H7.out.1
                have hA9 : A = OL ++ [(p : Int)] := by rw [HI.out.2.2.1, hQ.out.1, hQ.out.2]
                have hln : ol + 1 = A.length := by rw [hA9, List.length_append, ← HI.out.1]; rfl
                have hf : FreshInts w3.heap.size w7 a7 c7 A := by
                  unfold FreshInts
                  rw [← hln, hA9, List.map_append]
                  exact hrw
                have hcw := H6.out.2.2.2.2.2.grown H7.out.2 (fun y hy => .inr (row_beyond H6.out.1 hy).1)
                exact ⟨a7, ol + 1, c7, rfl, hln, row_base hf ((HC.out.1.tr H2.out.2).tr H3.out).size, ((HC.out.1.tr H2.out.2).tr H3.out).tr hcw⟩
              · have e9 : ((t : Int) == (p : Int)) = false := by simp; omega
                have e8 : ((t : Int) != (p : Int)) = true := by simp; omega
                have hQn : Q ≠ [] := fun h => htp (hI4 h)
                obtain ⟨v, Q', hQc⟩ : ∃ v Q', Q = v :: Q' := List.exists_cons_of_ne_nil hQn
                obtain ⟨_, hw⟩ := hI5 hQn
                rw [hQc] at hw
                have hv : nxtI G t p = v := by unfold nxtI; rw [hw]
                have hvb := nxt_neg HX.out.1.ok HX.out.1.rise (i := t) (k := p)
                obtain ⟨_, _, f1, f2, _⟩ := way_first HX.out.1.ok HX.out.1.rise hw
                have hv0 : 0 ≤ v := by
                  have h9 : wayI G t p ≠ [] := by rw [hw]; simp
                  have := mt hvb.1.1 h9
                  rw [hv] at this
                  omega
                obtain ⟨vn, rfl⟩ : ∃ vn : Nat, v = (vn : Int) := ⟨v.toNat, by omega⟩
                have hvl : vn < dl := by have := hvb.2.2; rw [hv] at this; omega
                have HV := Lib.hid (And.intro hv (And.intro hQc (And.intro f1 f2)))
                clear htp hQn hw hv hvb f1 f2 hv0 hQc
                have h1' : ∀ u ∈ [Value.int .i64 (t : Int)], u.oneCell' = true := by simp [Value.oneCell']
                have h2' : ol + 1 ≤ maxLen ∧ (ol + 1) * 8 ≤ 140737488355328 := by simp only [maxLen]; omega
                have hnew := cells_at (w := wq.alloc (.cells #[.int .i64 (t : Int)] 3)) (heap_alloc_same _ _)
                have hcA := (Chg.refl [] wq).alloc (.cells #[.int .i64 (t : Int)] 3)
                have H6 := Lib.hid (And.intro (hcA.row hrow (fun _ _ => by simp)) (And.intro h1' (And.intro h2' (And.intro hnew (And.intro (hI7.tr hcA).size (hI7.tr hcA))))))
                have HI := Lib.hid (And.intro hI1 (And.intro hI2 (And.intro hI3 (And.intro hI4 (And.intro hI5 hI7)))))
                clear h1' h2' hnew hcA hrow hI1 hI2 hI3 hI4 hI5 hI6 hI7
                go_wp2_with (at_builtin; refine wpList_append_own_at _ rfl _ _ 48 rfl w3.heap.size 3 i0 _ 1 8 Tryz.underlying48 hi0 hz0 hz1 hz2 rfl (by decide) (.slice oa ol oc) ol (OL.map (Value.int .i64)) rfl H6.out.1 ⟨wq.heap.size, 0, none⟩ 1 1 [.int .i64 (t : Int)] rfl rfl H6.out.2.2.2.1 H6.out.2.1 H6.out.2.2.1.1 H6.out.2.2.1.2 H6.out.2.2.2.2.1 ?_; intro v' w7 hr7 hg7 hn7 hb7; obtain ⟨a7, c7, rfl⟩ := ownsRow_slice hr7; have H7 := Lib.hid (And.intro hr7 hg7); clear hr7 hg7 hn7 hb7)
                have hg7 := H6.out.2.2.2.2.2.grown H7.out.2 (fun y hy => .inr (row_beyond H6.out.1 hy).1)
                have H8 := Lib.hid hg7
                clear hg7
                refine (HN3.out w7 H8.out t htl).mono ?_
                rintro e w8 ⟨rfl, h8⟩
                rw [HV.out.1]
                have H9 := Lib.hid h8
                clear h8
                go_wp2_with fail
                have hlq : Q'.length < qn + 0 := by have := HI.out.2.1; rw [HV.out.2.1] at this; simp only [List.length_cons] at this; omega
                go_roundg Q'.length
                case measure => omega
                case rel =>
                  have hrw := H7.out.1
                  have hln : ol + 1 = (OL ++ [(t : Int)]).length := by rw [List.length_append, ← HI.out.1]; rfl
                  have hf : FreshInts w3.heap.size w7 a7 c7 (OL ++ [(t : Int)]) := by
                    unfold FreshInts
                    rw [← hln, List.map_append]
                    exact hrw
                  have hol2 : ol + 1 ≤ 40 := by
                    have h9 := congrArg List.length HI.out.2.2.1
                    have := HX.out.2.2
                    rw [List.length_append, ← HI.out.1] at h9
                    simp only [List.length_cons] at h9
                    omega
                  refine ⟨vn, ol + 1, c7, Q'.length, a7, rfl, by omega, rfl, hvl, rfl, hol2, Lib.hid ⟨OL ++ [(t : Int)], Q', hln, rfl, by rw [HI.out.2.2.1, HV.out.2.1, List.append_assoc]; rfl, fun h => ?_, fun h => ?_, H9.out.row hf (fun _ _ => by simp), H8.out.tr H9.out⟩⟩
                  · have := HV.out.2.2.1 h; omega
                  · obtain ⟨g1, g2⟩ := HV.out.2.2.2 h
                    rw [Int.toNat_natCast] at g2
                    exact ⟨fun e => g1 (by rw [e]), g2⟩

set_option maxRecDepth 100000 in
set_option maxHeartbeats 4000000 in
theorem ref12Goes_any (w : World) (a1 : Option Addr) (n1 c1 : Nat) (a2 : Option Addr) (n2 c2 : Nat) (g : Gr) (hg : GramAt w a1 n1 c1 a2 n2 c2 g) (i : Int) :
    Calls Tryz.prog 61 #[.agg #[.slice a1 n1 c1, .slice a2 n2 c2], .int .i64 i] w fun e w' => e = .returned (.bool (goesB g i)) ∧ Chg [] w w' := by
  have hW := fun W (hW : Chg [] w W) => ref12Way_any W a1 n1 c1 a2 n2 c2 g (hg.keep hW.kp) i i
  obtain ⟨A, hA⟩ : ∃ A, A = wayL g i i := ⟨_, rfl⟩
  rw [goes_way g i, ← hA]
  rw [← hA] at hW
  have hl34 : A.length ≤ 34 := by rw [hA]; exact wayL_len g i i
  clear hA hg
  have HL := Lib.hid hl34
  clear hl34
  go_enter Tryz.func61, Tryz.ntmps61
  go_wp2_with fail
  refine (hW _ ((Chg.refl [] w).alloc _)).mono ?_
  rintro e w1 ⟨ra, rl, rc, rfl, e1, f1, h1⟩
  have HC := Lib.hid (And.intro (((Chg.refl [] w).alloc (.cells #[.slice a1 n1 c1, .slice a2 n2 c2] 25)).tr h1) e1)
  have hrl : rl ≤ 34 := by have := HL.out; omega
  clear h1 hW e1 f1
  go_wp2_with fail
  go_ret
  exact ⟨by rw [← HC.out.2]; first | rfl | simp, HC.out.1⟩
end Go.Proofs.YtibgfgfmljhimaaGreat

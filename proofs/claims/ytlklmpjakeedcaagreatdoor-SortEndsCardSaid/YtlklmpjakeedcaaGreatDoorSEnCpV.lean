/-
 A number is visited by the search: it does what the plain search does.
 Conditions: the graph is right and reads as data; the search lies in memory of its own.
-/
import Derived.Test.YtlklmpjakeedcaaGreatDoorSEnCpE
import Derived.Test.YtlklmpjakeedcaaGreatDoorSEnCpMb
import Derived.BigRegion
import Derived.StillTailTactics
set_option linter.unusedVariables false
set_option linter.unusedSimpArgs false
set_option linter.unnecessarySimpa false
namespace Go.Proofs.YtlklmpjakeedcaaGreatDoor
open Go.RowKit Go.MapKept Go.Shelf

theorem Chg.own {a b c : World} {S : List Nat} (h : Chg [] a b) (k : Chg S b c) (hS : ∀ j ∈ S, a.heap.size ≤ j) : Chg [] a c := h.trans k fun j hj => .inr (hS j hj)
def SearchAt (B : Nat) (w : World) (sb : Nat) (ga : Option Addr) (gn gc n : Nat) (s : Cp.TS) : Prop := ∃ (A M K P : Is) (la : Option Addr) (lc : Nat) (VS : List Is), SearchIs B w sb ga gn gc n A M K P la lc VS s
def VisitP (w0 : World) (sb : Nat) (ga : Option Addr) (n gc : Nat) (s' : Cp.TS) (e : Ending) (w' : World) : Prop := e = .returned (.tuple #[]) ∧ SearchAt w0.heap.size w' sb ga n gc n s' ∧ Chg [] w0 w'

set_option maxRecDepth 100000 in
set_option maxHeartbeats 4000000 in
theorem visit_met (w0 w : World) (sb : Nat) (ga : Option Addr) (n gc : Nat) (s : Cp.TS) (a : Nat) (ha : a < n) (hn : n ≤ 64) (hm : 0 < s.met a) (hc : Chg [] w0 w) (h : SearchAt w0.heap.size w sb ga n gc n s) :
  Calls Tryz.prog 151 #[.pointer (some ⟨sb, 0, none⟩), .int .i64 a] w (VisitP w0 sb ga n gc s) := by
 obtain ⟨A, M, K, P, la, lc, VS, h⟩ := h
 obtain ⟨gm, -, -, -, -, em, hm1, hm2, xm, -, -, -⟩ := h.putM ha 0
 obtain ⟨-, -, x2, -, -, -, -⟩ := h.cells
 rw [em] at x2
 obtain ⟨mc, hmc⟩ : ∃ mc, mc = M.2.1 := ⟨_, rfl⟩
 rw [← hmc] at x2 hm1 hm2
 obtain ⟨mv, hmv⟩ : ∃ mv, mv = s.met a := ⟨_, rfl⟩
 rw [← hmv] at xm hm
 have H := Lib.hid (And.intro h hc)
 clear h hc em hmc hmv
 go_enter Tryz.func151, Tryz.ntmps151
 go_wp2_with fail
 refine bodyPost_ret (v := .tuple #[]) (by simp [results, Tryz.results151, go_sem]) rfl ?_
 exact ⟨rfl, ⟨A, M, K, P, la, lc, VS, H.out.1⟩, H.out.2⟩

set_option maxRecDepth 100000 in
set_option maxHeartbeats 8000000 in
theorem visit_any (w0 : World) (sb : Nat) (ga : Option Addr) (n gc : Nat) (VG : List Is) (G : List (List Nat)) (hG : Cp.RG G) (hn : n = G.length) (hVG : VG.map (·.2.2) = Cp.intsG G) (hrows : IntRows w0 ga VG) (hgc : n ≤ gc ∧ gc ≤ 9223372036854775807) (k : Nat) :
  ∀ (C : List Nat) (s : Cp.TS) (a : Nat) (w : World), Cp.Pre G C s a k → Cp.clk n s ≤ n → Chg [] w0 w → SearchAt w0.heap.size w sb ga n gc n s →
  Calls Tryz.prog 151 #[.pointer (some ⟨sb, 0, none⟩), .int .i64 a] w (VisitP w0 sb ga n gc (Cp.visitT G k s a)) := by
 have hn64 : n ≤ 64 := by rw [hn]; exact hG.few
 induction k with
 | zero =>
  intro C s a w hp hk hc h
  rcases Nat.eq_zero_or_pos (s.met a) with e | e
  ·have := hp.pos e; omega
  ·rw [Cp.visitT_met G _ s a e]
   exact visit_met w0 w sb ga n gc s a (by rw [hn]; exact hp.lt) hn64 e hc h
 | succ k ih =>
  intro C s a w hp hk hc h
  rcases Nat.eq_zero_or_pos (s.met a) with e | e
  ·obtain ⟨T, hT⟩ : ∃ T, T = Cp.visitT G (k + 1) s a := ⟨_, rfl⟩
   rw [← hT]
   have ha : a < n := by rw [hn]; exact hp.lt
   obtain ⟨A, M, K, P, la, lc, VS, h⟩ := h
   obtain ⟨gm, e1, -, -, -, em, hm1, hm2, xm, -, -, -⟩ := h.putM ha 0
   obtain ⟨gk, e2, -, -, -, ek, hk1, hk2, -, -, -, -⟩ := h.putK ha 0
   obtain ⟨-, -, x2, x3, -, -, x6⟩ := h.cells
   have x6f := h.free 6
   rw [em] at x2
   rw [ek] at x3
   rw [e] at xm
   have xm' : w.cell? ⟨gm, a, none⟩ = some (.int .i64 0) := xm
   obtain ⟨mc, hmc⟩ : ∃ mc, mc = M.2.1 := ⟨_, rfl⟩
   rw [← hmc] at x2 hm1 hm2
   have hck : s.clock + 1 ≤ n := by rw [hn]; exact Cp.clk_lt hp.lt e (by rw [← hn]; exact hk)
   obtain ⟨ck, hck0⟩ : ∃ ck, ck = s.clock := ⟨_, rfl⟩
   rw [← hck0] at x6 hck
   have hw1 : IntKind.i64.wrap ((ck : Int) + 1) = (ck : Int) + 1 := IntWalk.i64_in _ (by omega)
   have H := Lib.hid (And.intro hG (And.intro hn (And.intro hVG (And.intro hrows (And.intro hp (And.intro hk (And.intro hc (And.intro h (And.intro hT (And.intro hck0 e))))))))))
   have IH := Lib.hid ih
   have E := Lib.hid (And.intro e1 (And.intro e2 (And.intro em (And.intro ek hmc))))
   clear hG hn hVG hrows hp hk hc h hT hck0 e em ih xm ek hk1 hk2 e1 e2 hmc
   go_enter Tryz.func151, Tryz.ntmps151
   go_wp2_with fail
   obtain ⟨w1, hw⟩ : ∃ w1, w1 = w.setCell ⟨sb, 6, none⟩ (.int .i64 ((ck : Int) + 1)) := ⟨_, rfl⟩
   rw [← hw]
   have hc1 : Chg [sb] w w1 := by rw [hw]; exact (Chg.refl [sb] w).setCell (p := ⟨sb, 6, none⟩) (.inl (by simp)) _
   have h1 : SearchIs w0.heap.size w1 sb ga n gc n A M K P la lc VS { s with clock := ck + 1 } := H.out.2.2.2.2.2.2.2.1.tick hc1 (ck + 1) (by
    have := heap_setCell_same H.out.2.2.2.2.2.2.2.1.head 6 (.int .i64 ((ck : Int) + 1))
    rw [← hw] at this
    simpa using this)
   clear hw x2 x3 x6 x6f xm' hw1
   obtain ⟨gm', e1, ne1, lo1, lt1, -, -, -, xm, fm, -, -⟩ := h1.putM ha (ck + 1)
   obtain ⟨gk', e2, ne2, lo2, lt2, -, hk1, hk2, xk, fk, -, -⟩ := h1.putK ha (ck + 1)
   obtain rfl : gm' = gm := by have := E.out.1; rw [e1] at this; simpa using this
   obtain rfl : gk' = gk := by have := E.out.2.1; rw [e2] at this; simpa using this
   obtain ⟨-, -, x2, x3, -, -, x6⟩ := h1.cells
   rw [E.out.2.2.1] at x2
   rw [E.out.2.2.2.1] at x3
   have x6 : w1.cell? ⟨sb, 6, none⟩ = some (.int .i64 ((ck : Int) + 1)) := x6
   obtain ⟨kc, hkc⟩ : ∃ kc, kc = K.2.1 := ⟨_, rfl⟩
   rw [← E.out.2.2.2.2] at x2
   rw [← hkc] at x3 hk1 hk2
   have hne : gm' ≠ gk' := fun e => by
    refine h1.aMK gm' ?_ ?_
    ·show (Value.slice M.1 _ _).ownBlock = _; rw [e1]; rfl
    ·show (Value.slice K.1 _ _).ownBlock = _; rw [e2, e]; rfl
   have hne' : gk' ≠ gm' := fun e => hne e.symm
   have H1 := Lib.hid (And.intro h1 (And.intro hc1 (And.intro e1 e2)))
   clear h1 hc1 e1 e2 hkc lo1 lo2
   go_region
   obtain ⟨w3, hw⟩ : ∃ w3, w3 = ((w1.setCell ⟨gm', a, none⟩ (.int .i64 ((ck : Int) + 1))).setCell ⟨gk', a, none⟩ (.int .i64 ((ck : Int) + 1))).drew := ⟨_, rfl⟩
   rw [← hw]
   obtain ⟨M3, K3, h3, hc3⟩ : ∃ M3 K3 : Is, SearchIs w0.heap.size w3 sb ga n gc n A M3 K3 P la lc VS { s with clock := ck + 1, met := Cp.upd s.met a (ck + 1), back := Cp.upd s.back a (ck + 1) } ∧ Chg [] w0 w3 := by
    obtain ⟨g1, q1, -, q2, -, -, -, -, -, -, q3, M3, -, q4⟩ := H1.out.1.putM ha (ck + 1)
    obtain rfl : g1 = gm' := by have := E.out.1; rw [q1] at this; simpa using this
    obtain ⟨g2, r1, -, r2, -, -, -, -, -, -, r3, K3, -, r4⟩ := q4.putK ha (ck + 1)
    obtain rfl : g2 = gk' := by have := E.out.2.1; rw [r1] at this; simpa using this
    refine ⟨M3, K3, by rw [hw]; exact r4.chg0 (Chg.refl [] _).drew, ?_⟩
    rw [hw]
    have c1 := H.out.2.2.2.2.2.2.1.own H1.out.2.1 (fun j hj => by rw [List.mem_singleton.1 hj]; exact H1.out.1.low)
    have c2 := c1.own q3 (fun j hj => by rw [List.mem_singleton.1 hj]; exact q2)
    exact (c2.own r3 (fun j hj => by rw [List.mem_singleton.1 hj]; exact r2)).drew
   have H3 := Lib.hid (And.intro h3 hc3)
   clear h3 hc3 hw x2 x3 xm fm xk fk hne hne' lt1 lt2 ne1 ne2 x6 hk1 hk2
   go_wp2_with fail
   refine (push_any w3 w0.heap.size sb 1 _ 161 A (a : Int) H3.out.1.head rfl (by decide) H3.out.2.size H3.out.1.rA (by
    rw [H3.out.1.aside, natI_len, List.length_reverse]
    have := Cp.wf_aside_len H.out.2.2.2.2.1.wf
    have := H.out.1.few
    show s.aside.length ≤ _
    omega)).mono ?_
   rintro e w4 ⟨rfl, A', ha1, ha2, ha3, ha4, ha5⟩
   have h4 : SearchIs w0.heap.size w4 sb ga n gc n A' M3 K3 P la lc VS (Cp.midT G k s a 0) := by
    have := H3.out.1.upA ha5 (fun k hk => by
     rcases List.mem_cons.1 hk with e | e
     ·exact .inl e
     ·exact .inr (by simpa using e)) (A' := A') (a :: s.aside) ha2 (by
      rw [ha1, H3.out.1.aside, List.reverse_cons, natI_append]; rfl) ha4 (by simpa using ha3)
    rw [Cp.midT_zero]
    rw [H.out.2.2.2.2.2.2.2.2.2.1] at this
    exact this
   have hc4 : Chg [] w0 w4 := H3.out.2.own ha5 (fun j hj => by
    rcases List.mem_cons.1 hj with e | e
    ·rw [e]; exact H3.out.1.low
    ·exact (row_lt H3.out.1.rA (by simpa using e)).1)
   have H4 := Lib.hid (And.intro h4 hc4)
   obtain ⟨x0, -, -, -, -, -, -⟩ := h4.cells
   have haG : a < VG.length := by
    have := congrArg List.length H.out.2.2.1
    rw [List.length_map, Cp.intsG_len] at this
    have := H.out.2.1
    omega
   obtain ⟨bg, og, rfl, hcg, ig, lg⟩ := (H.out.2.2.2.1.keep hc4.kp) a haG
   have hrow : VG[a].2.2 = natI (Cp.row G a) := by
    have h1 : (VG.map (·.2.2))[a]? = (Cp.intsG G)[a]? := by rw [H.out.2.2.1]
    have h2 : a < G.length := by rw [← H.out.2.1]; exact ha
    have h3 : Cp.row G a = G[a] := by unfold Cp.row; simp [h2]
    rw [h3]
    simpa [Cp.intsG, haG, h2, natI] using h1
   obtain ⟨ra, hra⟩ : ∃ ra, ra = VG[a].1 := ⟨_, rfl⟩
   obtain ⟨rc, hrc⟩ : ∃ rc, rc = VG[a].2.1 := ⟨_, rfl⟩
   obtain ⟨m, hm⟩ : ∃ m, m = (Cp.row G a).length := ⟨_, rfl⟩
   simp only [Is.cell, hrow] at hcg ig lg
   rw [natI_len] at hcg lg
   rw [← hra, ← hrc, ← hm] at hcg
   rw [← hra] at ig
   rw [← hm] at lg
   have HG := Lib.hid (And.intro hra (And.intro hm hrow))
   clear h4 hc4 ha1 ha2 ha3 ha4 ha5 ig hrow hra hrc hm
   go_wp2_with fail
   clear x0 hcg
   go_loopg [57] m (fun d iv wr => ∃ j : Nat, d = m - j ∧ j ≤ m ∧ iv = .int .i64 j ∧ Hid (SearchAt w0.heap.size wr sb (some ⟨bg, og, none⟩) n gc n (Cp.midT G k s a j) ∧ Chg [] w0 wr))
   case atStart => exact ⟨0, rfl, Nat.zero_le _, rfl, Lib.hid ⟨⟨_, _, _, _, _, _, _, H4.out.1⟩, H4.out.2⟩⟩
   case round =>
    obtain ⟨j, rfl, hj, rfl, hin⟩ := hrel
    obtain ⟨wq, rfl⟩ : ∃ wq, wq = wr := ⟨_, rfl⟩
    by_cases hlt : j < m
    ·have hjr : j < (Cp.row G a).length := by rw [← HG.out.2.1]; exact hlt
     obtain ⟨m1, m2, m3, m4, m5, m6, m7⟩ := Cp.mid_facts H.out.1 H.out.2.2.2.2.1 H.out.2.2.2.2.2.2.2.2.2.2 (by rw [← H.out.2.1]; exact H.out.2.2.2.2.2.1) (Nat.le_of_lt hjr)
     have hpre := m7 hjr
     obtain ⟨b, hb⟩ : ∃ b, b = (Cp.row G a)[j] := ⟨_, rfl⟩
     rw [← hb] at hpre
     have hbn : b < n := by rw [H.out.2.1]; exact hpre.lt
     have hints := ((H.out.2.2.2.1.keep hin.out.2.kp) a haG)
     obtain ⟨-, -, -, -, hints, -⟩ := hints
     rw [HG.out.2.2, ← HG.out.1] at hints
     obtain ⟨bz, oz, rfl, hz⟩ := hints j (by rw [natI_len]; exact hjr)
     have hz' : wq.cell? ⟨bz, oz + j, none⟩ = some (.int .i64 b) := by
      rw [hz]; simp [natI, hb]
     have hstep := Cp.midT_succ G k s a j hjr
     rw [← hb] at hstep
     have HB := Lib.hid (And.intro trivial (And.intro hpre (And.intro m1 hstep)))
     clear hb hpre m1 m2 m3 m4 m5 m6 m7 hints hz hjr hstep
     go_wp2_with fail
     clear hz'
     refine (IH.out (a :: C) (Cp.midT G k s a j) b wq HB.out.2.1 (by rw [H.out.2.1]; exact HB.out.2.2.1) hin.out.2 hin.out.1).mono ?_
     rintro e w5 ⟨rfl, ⟨A5, M5, K5, P5, la5, lc5, VS5, h5⟩, hc5⟩
     obtain ⟨V, hV⟩ : ∃ V, V = Cp.visitT G k (Cp.midT G k s a j) b := ⟨_, rfl⟩
     rw [← hV] at h5
     obtain ⟨gp, -, -, -, -, ep, p1, p2, xp, -, -, -⟩ := h5.putP hbn 0
     obtain ⟨gq, q0, -, ql, -, eq, q1, q2, xq, fq, -, -⟩ := h5.putK ha 0
     obtain ⟨gq', q0', -, -, -, -, -, -, xq', -, -, -⟩ := h5.putK hbn 0
     obtain rfl : gq' = gq := by rw [q0] at q0'; simpa using q0'.symm
     obtain ⟨-, -, -, x3, x4, -, -⟩ := h5.cells
     rw [ep] at x4
     rw [eq] at x3
     obtain ⟨pv, hpv⟩ : ∃ pv, pv = V.part b := ⟨_, rfl⟩
     obtain ⟨y1, hy1⟩ : ∃ y, y = V.back a := ⟨_, rfl⟩
     obtain ⟨y2, hy2⟩ : ∃ y, y = V.back b := ⟨_, rfl⟩
     rw [← hpv] at xp
     rw [← hy1] at xq
     rw [← hy2] at xq'
     obtain ⟨pc, hpc⟩ : ∃ pc, pc = P5.2.1 := ⟨_, rfl⟩
     obtain ⟨qc, hqc⟩ : ∃ qc, qc = K5.2.1 := ⟨_, rfl⟩
     rw [← hpc] at x4 p1 p2
     rw [← hqc] at x3 q1 q2
     have H5 := Lib.hid (And.intro h5 (And.intro hc5 (And.intro hV (And.intro hpv (And.intro hy1 hy2)))))
     clear h5 hc5 hV hpv hy1 hy2 ep eq q0' hpc hqc
     by_cases hneg : pv < 0
     ·have hd1 : decide (pv < 0) = true := decide_eq_true hneg
      have Q := Lib.hid (And.intro q0 ql)
      clear q0 ql
      go_wp2_with fail
      clear xp x4 p1 p2
      go_still_tail 20, (by kernel_rfl)
      change wpList _ _ _ _ _ w5.drew
      have hdw := (Chg.refl [] w5).drew
      obtain ⟨wd, ed⟩ : ∃ z, z = w5.drew := ⟨_, rfl⟩
      rw [← ed] at hdw ⊢
      have xd := hdw.cell xq (by simp)
      have fd : wd.frozen? ⟨gq', a, none⟩ = false := by rw [ed]; exact fq
      have ED := Lib.hid ed
      clear x3 xq xq' fq hdw ed
      go_wp2_with fail
      clear xd fd q1 q2
      obtain ⟨w6, hw⟩ : ∃ w6, w6 = wd.setCell ⟨gq', a, none⟩ (.int .i64 (min (y1 : Int) (y2 : Int))) := ⟨_, rfl⟩
      rw [← hw]
      rw [ED.out] at hw
      have hn6 : SearchAt w0.heap.size w6 sb (some ⟨bg, og, none⟩) n gc n (Cp.midT G k s a (j + 1)) ∧ Chg [] w0 w6 := by
       obtain ⟨g1, r1, -, r2, -, -, -, -, -, -, r3, K6, -, r4⟩ := (H5.out.1.chg0 (Chg.refl [] w5).drew).putK ha (min y1 y2)
       obtain rfl : g1 = gq' := by have := Q.out.1; rw [r1] at this; simpa using this
       have hmin : ((min y1 y2 : Nat) : Int) = min (y1 : Int) (y2 : Int) := by omega
       rw [hmin] at r3 r4
       refine ⟨⟨_, _, _, _, _, _, _, (?_ : SearchIs w0.heap.size w6 sb (some ⟨bg, og, none⟩) n gc n A5 M5 K6 P5 la5 lc5 VS5 _)⟩, ?_⟩
       ·rw [HB.out.2.2.2, hw, ← H5.out.2.2.1]
        unfold Cp.seeT
        rw [if_pos (by rw [← H5.out.2.2.2.1]; exact hneg), ← H5.out.2.2.2.2.1, ← H5.out.2.2.2.2.2]
        exact r4
       ·rw [hw]
        exact H5.out.2.1.drew.own r3 (fun j hj => by rw [List.mem_singleton.1 hj]; exact r2)
      have H6 := Lib.hid hn6
      clear hn6 hw
      go_wp2_with fail
      go_roundg (m - (j + 1))
      case measure => omega
      case rel => exact ⟨j + 1, rfl, by omega, by go_num, H6⟩
     ·have hd1 : decide (pv < 0) = false := decide_eq_false hneg
      have hn6 : SearchAt w0.heap.size w5 sb (some ⟨bg, og, none⟩) n gc n (Cp.midT G k s a (j + 1)) ∧ Chg [] w0 w5 := by
       refine ⟨⟨_, _, _, _, _, _, _, (?_ : SearchIs w0.heap.size w5 sb (some ⟨bg, og, none⟩) n gc n A5 M5 K5 P5 la5 lc5 VS5 _)⟩, H5.out.2.1⟩
       rw [HB.out.2.2.2, ← H5.out.2.2.1]
       unfold Cp.seeT
       rw [if_neg (by rw [← H5.out.2.2.2.1]; exact hneg)]
       exact H5.out.1
      have H6 := Lib.hid hn6
      clear hn6 x3 xq xq' fq q1 q2 q0 ql
      go_wp2_with fail
      go_roundg (m - (j + 1))
      case measure => omega
      case rel => exact ⟨j + 1, rfl, by omega, by go_num, H6⟩
    ·obtain rfl : j = m := by omega
     obtain ⟨⟨A5, M5, K5, P5, la5, lc5, VS5, h5⟩, hc5⟩ := hin.out
     have HT : T = Cp.leaveT G.length (Cp.midT G k s a (Cp.row G a).length) a := H.out.2.2.2.2.2.2.2.2.1.trans (Cp.visitT_succ G k s a H.out.2.2.2.2.2.2.2.2.2.2)
     obtain ⟨-, m2, m3, m4, m5, -, -⟩ := Cp.mid_facts H.out.1 H.out.2.2.2.2.1 H.out.2.2.2.2.2.2.2.2.2.2 (by rw [← H.out.2.1]; exact H.out.2.2.2.2.2.1) (Nat.le_refl (Cp.row G a).length)
     rw [← HG.out.2.1] at HT m2 m3 m4 m5
     obtain ⟨V, hV⟩ : ∃ V, V = Cp.midT G k s a j := ⟨_, rfl⟩
     rw [← hV] at h5 HT m2 m3 m4 m5
     rw [← H.out.2.1] at m2 m5 HT
     obtain ⟨gq, q0, -, ql, -, eq, q1, q2, xq, -, -, -⟩ := h5.putK ha 0
     obtain ⟨gr, r0, -, rl, -, er, r1, r2, xr, -, -, -⟩ := h5.putM ha 0
     obtain ⟨-, -, x2, x3, -, -, -⟩ := h5.cells
     rw [er] at x2
     rw [eq] at x3
     obtain ⟨y1, hy1⟩ : ∃ y, y = V.back a := ⟨_, rfl⟩
     obtain ⟨y2, hy2⟩ : ∃ y, y = V.met a := ⟨_, rfl⟩
     rw [← hy1] at xq
     rw [← hy2] at xr
     obtain ⟨rc', hrc⟩ : ∃ rc, rc = M5.2.1 := ⟨_, rfl⟩
     obtain ⟨qc, hqc⟩ : ∃ qc, qc = K5.2.1 := ⟨_, rfl⟩
     rw [← hrc] at x2 r1 r2
     rw [← hqc] at x3 q1 q2
     have H5 := Lib.hid (And.intro h5 (And.intro hc5 (And.intro HT (And.intro m2 (And.intro m3 (And.intro m4 (And.intro m5 (And.intro hy1 hy2))))))))
     have H5v := Lib.hid hV
     clear h5 hc5 HT m2 m3 m4 m5 hy1 hy2 eq er hrc hqc q0 r0 ql rl hV
     go_wp2_with fail
     have k2 := cell_rg x2
     have k3 := cell_rg x3
     have kq := cell_rg xq
     have kr := cell_rg xr
     clear x2 x3 xq xr
     refine wp_region_quiet_below (by kernel_rfl) (by kernel_rfl) ?_
     (repeat (go_big_quiet_step (fail)))
     refine wpQuiet_nil ?_
     intro w6 hw6
     have hc6 := chg_of_rg hw6
     clear hw6 k2 k3 kq kr q1 q2 r1 r2
     by_cases hbm : y1 < y2
     ·go_wp2_with fail
      refine bodyPost_ret (v := .tuple #[]) (by simp [results, Tryz.results151, go_sem]) rfl ?_
      refine ⟨rfl, ⟨A5, M5, K5, P5, la5, lc5, VS5, ?_⟩, H5.out.2.1.tr hc6⟩
      rw [H5.out.2.2.1]
      unfold Cp.leaveT
      rw [if_pos (by rw [← H5.out.2.2.2.2.2.2.2.1, ← H5.out.2.2.2.2.2.2.2.2]; exact hbm)]
      exact H5.out.1.chg0 hc6
     ·obtain ⟨J, j1, j2, j3, j4, j5⟩ := Cp.top_take H5.out.2.2.2.2.1
      have HT2 := H5.out.2.2.1
      rw [Cp.leave_not (by rw [← H5.out.2.2.2.2.2.2.2.1, ← H5.out.2.2.2.2.2.2.2.2]; exact hbm) j4 j5] at HT2
      obtain ⟨L, hL⟩ : ∃ L, L = V.aside := ⟨_, rfl⟩
      rw [← hL] at j1 j2 j3 HT2
      have HJ := Lib.hid (And.intro j2 (And.intro j3 (And.intro HT2 (And.intro hL hbm))))
      have hJn : J < 64 := by have := H5.out.2.2.2.1; rw [← hL] at this; omega
      have HJL := Lib.hid j1
      have hnb : ¬ y1 < y2 := hbm
      clear j1 j2 j3 j4 j5 HT2 hL hbm
      go_wp2_with fail
      rw [show decide (y1 < y2) = false from decide_eq_false hnb]
      clear hnb
      go_loopg [6] (J + 1) (fun d pv wr => ∃ (t : Nat) (pa : Option Addr) (pc : Nat), d = J + 1 - t ∧ t ≤ J + 1 ∧ pv = .slice pa t pc ∧ Hid (WithX w0.heap.size wr sb (some ⟨bg, og, none⟩) n gc n { V with aside := L.drop t } (pa, pc, natI (L.take t)) ∧ Chg [] w0 wr))
      case atStart => exact ⟨0, none, 0, rfl, Nat.zero_le _, rfl, Lib.hid ⟨⟨A5, M5, K5, P5, la5, lc5, VS5, by rw [List.drop_zero, HJ.out.2.2.2.1]; exact H5.out.1.chg0 hc6, World.ownsRow_nil _ _ _ _, apt_none rfl, apt_none rfl, apt_none rfl, apt_none rfl, fun q _ => apt_none rfl⟩, H5.out.2.1.tr hc6⟩⟩
      case round =>
       obtain ⟨t, pa, pc, rfl, ht, rfl, hin7⟩ := hrel
       obtain ⟨wq7, rfl⟩ : ∃ wq7, wq7 = wr := ⟨_, rfl⟩
       obtain ⟨⟨A7, M7, K7, P7, la7, lc7, VS7, h7, hX, xA, xM, xK, xP, xV⟩, hc7⟩ := hin7.out
       by_cases htl : t < J + 1
       ·have htL : t < L.length := by have := HJL.out; omega
        obtain ⟨x, hx⟩ : ∃ x, x = L[t] := ⟨_, rfl⟩
        have hal : A7.2.2 = natI (L.drop (t + 1)).reverse ++ [(x : Int)] := by
         rw [h7.aside, hx]
         show natI (L.drop t).reverse = _
         rw [Cp.drop_cons htL, natI_append]; rfl
        have hpop := pop_any wq7 w0.heap.size sb 1 _ 161 A7 (natI (L.drop (t + 1)).reverse) (x : Int) h7.head rfl (by decide) h7.rA hal
        have hlt7 : (natI (L.take t)).length = t := by rw [natI_len, List.length_take]; omega
        have hrowX : wq7.ownsRow w0.heap.size 3 1 (.slice pa t pc) t ((natI (L.take t)).map (Value.int .i64)) := by
         have := hX
         unfold FreshInts at this
         rw [hlt7] at this
         exact this
        have hcond : t = 0 ∨ ∃ q y, t = q + 1 ∧ y ≠ a ∧ ∃ bx, pa = some ⟨bx, 0, none⟩ ∧ wq7.cell? ⟨bx, q, none⟩ = some (.int .i64 (y : Nat)) ∧ t ≤ pc ∧ pc ≤ 9223372036854775807 := by
         rcases Nat.eq_zero_or_pos t with e | e
         ·exact .inl e
         ·refine .inr ⟨t - 1, L[t - 1], by omega, fun hy => ?_, ?_⟩
          ·have := HJ.out.2.1 (t - 1) (by omega)
           rw [List.getElem?_eq_getElem (by omega), hy] at this
           exact this rfl
          ·rcases hrowX.2 with ⟨h0, h1⟩ | ⟨g, cap, cur, h0, _, hg, hn1, hc1, _⟩
           ·omega
           ·simp only [Value.slice.injEq] at h0
            obtain ⟨q1, -, q2⟩ := h0
            subst q1 q2
            refine ⟨g, rfl, ?_, hn1, by simpa only [maxLen] using hc1⟩
            have h2 := (row_put hrowX (i := t - 1) (by omega)).1
            rw [h2, List.getElem?_map]
            have h3 : (natI (L.take t))[t - 1]? = some (L[t - 1] : Int) := by
             simp [natI, List.getElem?_map, List.getElem?_take_of_lt (show t - 1 < t by omega), htL, show t - 1 < L.length by omega]
            rw [h3]; rfl
        have H7 := Lib.hid (And.intro h7 (And.intro hX (And.intro xA (And.intro xM (And.intro xK (And.intro xP (And.intro xV (And.intro hc7 (And.intro hpop (And.intro hrowX (And.intro hal hx)))))))))))
        clear h7 hX xA xM xK xP xV hc7 hpop hrowX hal hx hlt7
        rcases hcond with e0 | ⟨q, y, e0, hya, bx, rfl, hyc, hn1, hn2⟩
        ·have HE0 := Lib.hid e0
         have ht0 : ((t : Int) == 0) = true := by simp [e0]
         have ht1 : decide ((t : Int) = 0) = true := decide_eq_true (by omega)
         have ht2 : decide (t = 0) = true := decide_eq_true e0
         clear e0
         go_wp2_with fail
         refine H7.out.2.2.2.2.2.2.2.2.1.mono ?_
         rintro e w6 ⟨rfl, p1, p2, p3, p4⟩
         have hX6 : FreshInts w0.heap.size w6 pa pc (natI (L.take t)) := p4.row H7.out.2.1 (fun k hk hm => by
          rw [List.mem_singleton.1 hm] at hk
          exact row_ne_search (X := (pa, pc, natI (L.take t))) H7.out.2.1 H7.out.1.head hk)
         have h6 := H7.out.1.upA p4 (fun k hk => .inl (List.mem_singleton.1 hk)) (A' := (A7.1, A7.2.1, natI (L.drop (t + 1)).reverse)) (L.drop (t + 1)) p1 rfl (fun k hk => .inl (by rw [← p3]; exact hk)) (by simpa using p2)
         have hc6' := H7.out.2.2.2.2.2.2.2.1.own p4 (fun j hj => by rw [List.mem_singleton.1 hj]; exact H7.out.1.low)
         have hlt7 : (natI (L.take t)).length = t := by rw [natI_len, List.length_take]; have := HJL.out; omega
         have hrow6 : w6.ownsRow w0.heap.size 3 1 (.slice pa t pc) t ((natI (L.take t)).map (Value.int .i64)) := by
          have := hX6
          unfold FreshInts at this
          rw [hlt7] at this
          exact this
         obtain ⟨i0, hin0, hz0, hz1, hz2⟩ := info_parts Tryz.infoInt
         have hcA := (Chg.refl [] w6).alloc (Obj.cells #[.int .i64 x] 3)
         have hrowA := hcA.row hrow6 (fun _ _ => by simp)
         have hb1 : ∀ u ∈ [Value.int .i64 (x : Int)], u.oneCell' = true := by simp [Value.oneCell']
         have hb2 : t + 1 ≤ maxLen ∧ (t + 1) * 8 ≤ 140737488355328 := by simp only [maxLen]; omega
         have hnew := cells_at (w := w6.alloc (Obj.cells #[.int .i64 x] 3)) (heap_alloc_same _ _)
         have hszA : w0.heap.size ≤ (w6.alloc (Obj.cells #[.int .i64 x] 3)).heap.size := Nat.le_trans hc6'.size hcA.size
         have H8 := Lib.hid (And.intro hrowA (And.intro hb1 (And.intro hb2 (And.intro hnew (And.intro hszA (And.intro hcA (And.intro h6 (And.intro hX6 (And.intro hc6' (And.intro hlt7 p3))))))))))
         clear hrowA hb1 hb2 hnew hszA hcA h6 hX6 hc6' hlt7 hrow6 p1 p2 p3 p4
         go_wp2_with (at_builtin; refine wpList_append_own_at _ rfl _ _ 34 rfl w0.heap.size 3 i0 _ 1 8 Tryz.underlying34 hin0 hz0 hz1 hz2 rfl (by decide) (.slice pa t pc) t ((natI (L.take t)).map (Value.int .i64)) rfl H8.out.1 ⟨w6.heap.size, 0, none⟩ 1 1 [.int .i64 x] rfl rfl H8.out.2.2.2.1 H8.out.2.1 H8.out.2.2.1.1 H8.out.2.2.1.2 H8.out.2.2.2.2.1 ?_; intro v' w8 hr5 hg5 hn5 hb5; obtain ⟨a5, c5, rfl⟩ := ownsRow_slice hr5; have HW := Lib.hid (And.intro hr5 (And.intro hg5 hb5)); clear hr5 hg5 hn5 hb5)
         go_roundg (J + 1 - (t + 1))
         case measure => omega
         case rel =>
          have hx := H7.out.2.2.2.2.2.2.2.2.2.2.2
          have htL : t < L.length := by have := HJL.out; omega
          have hxx : L[t]? = some x := by rw [hx]; exact List.getElem?_eq_getElem htL
          have htk : L.take (t + 1) = L.take t ++ [x] := by rw [List.take_succ_eq_append_getElem htL, hx]
          have hlen8 : (natI (L.take (t + 1))).length = t + 1 := by rw [htk, natI_append, List.length_append, H8.out.2.2.2.2.2.2.2.2.2.1]; rfl
          have hcg : Chg (Is.own (pa, pc, natI (L.take t))).toList w6 w8 := (H8.out.2.2.2.2.2.1.any).tr ((Chg.refl _ _).grown HW.out.2.1 (fun k hk => .inl (by
           have e8 : (Is.own (pa, pc, natI (L.take t))) = some k := by
            show (Value.slice pa (natI (L.take t)).length pc).ownBlock = some k
            rw [H8.out.2.2.2.2.2.2.2.2.2.1]; exact hk
           rw [e8]; simp)))
          have ho : Is.own (a5, c5, natI (L.take (t + 1))) = Is.own (pa, pc, natI (L.take t)) ∨ ∃ k, Is.own (a5, c5, natI (L.take (t + 1))) = some k ∧ w6.heap.size ≤ k := by
           have e9 : Is.own (a5, c5, natI (L.take (t + 1))) = (Value.slice a5 (t + 1) c5).ownBlock := by
            show (Value.slice a5 (natI (L.take (t + 1))).length c5).ownBlock = _
            rw [hlen8]
           have e8 : Is.own (pa, pc, natI (L.take t)) = (Value.slice pa t pc).ownBlock := by
            show (Value.slice pa (natI (L.take t)).length pc).ownBlock = _
            rw [H8.out.2.2.2.2.2.2.2.2.2.1]
           rcases HW.out.2.2 with e | e
           ·exact .inl (by rw [e9, e8, e])
           ·exact .inr ⟨_, by rw [e9, e], by rw [World.size_alloc]; omega⟩
          have h6 := H8.out.2.2.2.2.2.2.1
          have xA' : Apt (A7.1, A7.2.1, natI (L.drop (t + 1)).reverse) (pa, pc, natI (L.take t)) := H7.out.2.2.1.own H8.out.2.2.2.2.2.2.2.2.2.2
          have h8 := h6.keepX hcg (X := (pa, pc, natI (L.take t))) H8.out.2.2.2.2.2.2.2.1 (fun k hk => by simpa using hk) xA' H7.out.2.2.2.1 H7.out.2.2.2.2.1 H7.out.2.2.2.2.2.1 H7.out.2.2.2.2.2.2.1
          refine ⟨t + 1, a5, c5, rfl, by omega, rfl, Lib.hid ⟨⟨_, M7, K7, P7, la7, lc7, VS7, h8, ?_, xA'.grow h6.rA ho, H7.out.2.2.2.1.grow h6.rM ho, H7.out.2.2.2.2.1.grow h6.rK ho, H7.out.2.2.2.2.2.1.grow h6.rP ho, fun q hq => (H7.out.2.2.2.2.2.2.1 q hq).grow (h6.own.each q hq) ho⟩, ?_⟩⟩
          ·show FreshInts w0.heap.size w8 a5 c5 (natI (L.take (t + 1)))
           unfold FreshInts
           rw [hlen8, htk, natI_append, List.map_append]
           exact HW.out.1
          ·exact H8.out.2.2.2.2.2.2.2.2.1.own hcg (fun j hj => (row_lt (X := (pa, pc, natI (L.take t))) H8.out.2.2.2.2.2.2.2.1 (by simpa using hj)).1)
        ·have HE0 := Lib.hid e0
         have hyn : ((y : Int) == (a : Int)) = false := beq_eq_false_iff_ne.2 (by omega)
         have hyd : decide ((y : Int) = (a : Int)) = false := decide_eq_false (by omega)
         have hw1 : wrap64 ((t : Int) - 1) = (q : Int) := (IntWalk.i64_left _).symm.trans ((IntWalk.i64_in _ (by omega)).trans (by omega))
         have hw2 : IntKind.i64.wrap ((t : Int) - 1) = (q : Int) := (IntWalk.i64_in _ (by omega)).trans (by omega)
         have ht0 : ((t : Int) == 0) = false := by simp; omega
         have ht1 : decide ((t : Int) = 0) = false := decide_eq_false (by omega)
         have ht2 : decide (t = 0) = false := decide_eq_false (by omega)
         have hqt : (q : Int) < (t : Int) := by omega
         have hqt2 : q < t := by omega
         clear e0 hya
         go_wp2_with fail
         refine H7.out.2.2.2.2.2.2.2.2.1.mono ?_
         rintro e w6 ⟨rfl, p1, p2, p3, p4⟩
         have hX6 : FreshInts w0.heap.size w6 (some ⟨bx, 0, none⟩) pc (natI (L.take t)) := p4.row H7.out.2.1 (fun k hk hm => by
          rw [List.mem_singleton.1 hm] at hk
          exact row_ne_search (X := ((some ⟨bx, 0, none⟩), pc, natI (L.take t))) H7.out.2.1 H7.out.1.head hk)
         have h6 := H7.out.1.upA p4 (fun k hk => .inl (List.mem_singleton.1 hk)) (A' := (A7.1, A7.2.1, natI (L.drop (t + 1)).reverse)) (L.drop (t + 1)) p1 rfl (fun k hk => .inl (by rw [← p3]; exact hk)) (by simpa using p2)
         have hc6' := H7.out.2.2.2.2.2.2.2.1.own p4 (fun j hj => by rw [List.mem_singleton.1 hj]; exact H7.out.1.low)
         have hlt7 : (natI (L.take t)).length = t := by rw [natI_len, List.length_take]; have := HJL.out; omega
         have hrow6 : w6.ownsRow w0.heap.size 3 1 (.slice (some ⟨bx, 0, none⟩) t pc) t ((natI (L.take t)).map (Value.int .i64)) := by
          have := hX6
          unfold FreshInts at this
          rw [hlt7] at this
          exact this
         obtain ⟨i0, hin0, hz0, hz1, hz2⟩ := info_parts Tryz.infoInt
         have hcA := (Chg.refl [] w6).alloc (Obj.cells #[.int .i64 x] 3)
         have hrowA := hcA.row hrow6 (fun _ _ => by simp)
         have hb1 : ∀ u ∈ [Value.int .i64 (x : Int)], u.oneCell' = true := by simp [Value.oneCell']
         have hb2 : t + 1 ≤ maxLen ∧ (t + 1) * 8 ≤ 140737488355328 := by simp only [maxLen]; omega
         have hnew := cells_at (w := w6.alloc (Obj.cells #[.int .i64 x] 3)) (heap_alloc_same _ _)
         have hszA : w0.heap.size ≤ (w6.alloc (Obj.cells #[.int .i64 x] 3)).heap.size := Nat.le_trans hc6'.size hcA.size
         have H8 := Lib.hid (And.intro hrowA (And.intro hb1 (And.intro hb2 (And.intro hnew (And.intro hszA (And.intro hcA (And.intro h6 (And.intro hX6 (And.intro hc6' (And.intro hlt7 p3))))))))))
         clear hrowA hb1 hb2 hnew hszA hcA h6 hX6 hc6' hlt7 hrow6 p1 p2 p3 p4
         go_wp2_with (at_builtin; refine wpList_append_own_at _ rfl _ _ 34 rfl w0.heap.size 3 i0 _ 1 8 Tryz.underlying34 hin0 hz0 hz1 hz2 rfl (by decide) (.slice (some ⟨bx, 0, none⟩) t pc) t ((natI (L.take t)).map (Value.int .i64)) rfl H8.out.1 ⟨w6.heap.size, 0, none⟩ 1 1 [.int .i64 x] rfl rfl H8.out.2.2.2.1 H8.out.2.1 H8.out.2.2.1.1 H8.out.2.2.1.2 H8.out.2.2.2.2.1 ?_; intro v' w8 hr5 hg5 hn5 hb5; obtain ⟨a5, c5, rfl⟩ := ownsRow_slice hr5; have HW := Lib.hid (And.intro hr5 (And.intro hg5 hb5)); clear hr5 hg5 hn5 hb5)
         go_roundg (J + 1 - (t + 1))
         case measure => omega
         case rel =>
          have hx := H7.out.2.2.2.2.2.2.2.2.2.2.2
          have htL : t < L.length := by have := HJL.out; omega
          have hxx : L[t]? = some x := by rw [hx]; exact List.getElem?_eq_getElem htL
          have htk : L.take (t + 1) = L.take t ++ [x] := by rw [List.take_succ_eq_append_getElem htL, hx]
          have hlen8 : (natI (L.take (t + 1))).length = t + 1 := by rw [htk, natI_append, List.length_append, H8.out.2.2.2.2.2.2.2.2.2.1]; rfl
          have hcg : Chg (Is.own ((some ⟨bx, 0, none⟩), pc, natI (L.take t))).toList w6 w8 := (H8.out.2.2.2.2.2.1.any).tr ((Chg.refl _ _).grown HW.out.2.1 (fun k hk => .inl (by
           have e8 : (Is.own ((some ⟨bx, 0, none⟩), pc, natI (L.take t))) = some k := by
            show (Value.slice (some ⟨bx, 0, none⟩) (natI (L.take t)).length pc).ownBlock = some k
            rw [H8.out.2.2.2.2.2.2.2.2.2.1]; exact hk
           rw [e8]; simp)))
          have ho : Is.own (a5, c5, natI (L.take (t + 1))) = Is.own ((some ⟨bx, 0, none⟩), pc, natI (L.take t)) ∨ ∃ k, Is.own (a5, c5, natI (L.take (t + 1))) = some k ∧ w6.heap.size ≤ k := by
           have e9 : Is.own (a5, c5, natI (L.take (t + 1))) = (Value.slice a5 (t + 1) c5).ownBlock := by
            show (Value.slice a5 (natI (L.take (t + 1))).length c5).ownBlock = _
            rw [hlen8]
           have e8 : Is.own ((some ⟨bx, 0, none⟩), pc, natI (L.take t)) = (Value.slice (some ⟨bx, 0, none⟩) t pc).ownBlock := by
            show (Value.slice (some ⟨bx, 0, none⟩) (natI (L.take t)).length pc).ownBlock = _
            rw [H8.out.2.2.2.2.2.2.2.2.2.1]
           rcases HW.out.2.2 with e | e
           ·exact .inl (by rw [e9, e8, e])
           ·exact .inr ⟨_, by rw [e9, e], by rw [World.size_alloc]; omega⟩
          have h6 := H8.out.2.2.2.2.2.2.1
          have xA' : Apt (A7.1, A7.2.1, natI (L.drop (t + 1)).reverse) ((some ⟨bx, 0, none⟩), pc, natI (L.take t)) := H7.out.2.2.1.own H8.out.2.2.2.2.2.2.2.2.2.2
          have h8 := h6.keepX hcg (X := ((some ⟨bx, 0, none⟩), pc, natI (L.take t))) H8.out.2.2.2.2.2.2.2.1 (fun k hk => by simpa using hk) xA' H7.out.2.2.2.1 H7.out.2.2.2.2.1 H7.out.2.2.2.2.2.1 H7.out.2.2.2.2.2.2.1
          refine ⟨t + 1, a5, c5, rfl, by omega, rfl, Lib.hid ⟨⟨_, M7, K7, P7, la7, lc7, VS7, h8, ?_, xA'.grow h6.rA ho, H7.out.2.2.2.1.grow h6.rM ho, H7.out.2.2.2.2.1.grow h6.rK ho, H7.out.2.2.2.2.2.1.grow h6.rP ho, fun q hq => (H7.out.2.2.2.2.2.2.1 q hq).grow (h6.own.each q hq) ho⟩, ?_⟩⟩
          ·show FreshInts w0.heap.size w8 a5 c5 (natI (L.take (t + 1)))
           unfold FreshInts
           rw [hlen8, htk, natI_append, List.map_append]
           exact HW.out.1
          ·exact H8.out.2.2.2.2.2.2.2.2.1.own hcg (fun j hj => (row_lt (X := ((some ⟨bx, 0, none⟩), pc, natI (L.take t))) H8.out.2.2.2.2.2.2.2.1 (by simpa using hj)).1)
       ·have hte : t = J + 1 := by omega
        have hJL : J < L.length := HJL.out
        have hJa : L[J] = a := by
         have := HJ.out.1
         rw [List.getElem?_eq_getElem hJL] at this
         simpa using this
        have hlt7 : (natI (L.take t)).length = t := by rw [natI_len, List.length_take]; omega
        have hrowX : wq7.ownsRow w0.heap.size 3 1 (.slice pa t pc) t ((natI (L.take t)).map (Value.int .i64)) := by
         have := hX
         unfold FreshInts at this
         rw [hlt7] at this
         exact this
        obtain ⟨bx, rfl, hyc, hn1, hn2⟩ : ∃ bx, pa = some ⟨bx, 0, none⟩ ∧ wq7.cell? ⟨bx, J, none⟩ = some (.int .i64 (a : Nat)) ∧ t ≤ pc ∧ pc ≤ 9223372036854775807 := by
         rcases hrowX.2 with ⟨h0, h1⟩ | ⟨g, cap, cur, h0, _, hg, hn1, hc1, _⟩
         ·omega
         ·simp only [Value.slice.injEq] at h0
          obtain ⟨q1, -, q2⟩ := h0
          subst q1 q2
          refine ⟨g, rfl, ?_, hn1, by simpa only [maxLen] using hc1⟩
          have h2 := (row_put hrowX (i := J) (by omega)).1
          rw [h2, List.getElem?_map]
          have h3 : (natI (L.take t))[J]? = some (a : Int) := by
           simp [natI, List.getElem?_map, List.getElem?_take_of_lt (show J < t by omega), hJL, hJa]
          rw [h3]; rfl
        have ht0 : ((t : Int) == 0) = false := by simp; omega
        have ht1 : decide ((t : Int) = 0) = false := decide_eq_false (by omega)
        have ht2 : decide (t = 0) = false := decide_eq_false (by omega)
        have hw1 : wrap64 ((t : Int) - 1) = (J : Int) := (IntWalk.i64_left _).symm.trans ((IntWalk.i64_in _ (by omega)).trans (by omega))
        have hw2 : IntKind.i64.wrap ((t : Int) - 1) = (J : Int) := (IntWalk.i64_in _ (by omega)).trans (by omega)
        have hqt2 : J < t := by omega
        have hqt : (J : Int) < (t : Int) := by omega
        have ht65 : t ≤ 64 := by omega
        have H7 := Lib.hid (And.intro h7 (And.intro hX (And.intro xA (And.intro xM (And.intro xK (And.intro xP (And.intro xV (And.intro hc7 (And.intro hte hlt7)))))))))
        clear h7 hX xA xM xK xP xV hc7 hrowX hte hlt7 hJL hJa htl
        go_wp2_with fail
        clear hyc ht0 ht1 ht2 hw1 hw2 hqt hqt2
        go_loopg [131] t (fun d iv wr => ∃ i : Nat, d = t - i ∧ i ≤ t ∧ iv = .int .i64 i ∧ Hid (WithX w0.heap.size wr sb (some ⟨bg, og, none⟩) n gc n { V with aside := L.drop t, part := Cp.markT V.part (V.parts.length : Int) (L.take i) } (some ⟨bx, 0, none⟩, pc, natI (L.take t)) ∧ Chg [] w0 wr))
        case atStart => exact ⟨0, rfl, Nat.zero_le _, rfl, Lib.hid ⟨⟨A7, M7, K7, P7, la7, lc7, VS7, by rw [List.take_zero, Cp.markT_nil]; exact H7.out.1, H7.out.2.1, H7.out.2.2.1, H7.out.2.2.2.1, H7.out.2.2.2.2.1, H7.out.2.2.2.2.2.1, H7.out.2.2.2.2.2.2.1⟩, H7.out.2.2.2.2.2.2.2.1⟩⟩
        case round =>
         obtain ⟨i, rfl, hi, rfl, hin8⟩ := hrel
         obtain ⟨wq8, rfl⟩ : ∃ wq8, wq8 = wr := ⟨_, rfl⟩
         obtain ⟨⟨A8, M8, K8, P8, la8, lc8, VS8, h8, hX, xA, xM, xK, xP, xV⟩, hc8⟩ := hin8.out
         by_cases hil : i < t
         ·have hiL : i < L.length := by have := HJL.out; have := H7.out.2.2.2.2.2.2.2.2.1; omega
          obtain ⟨b, hb⟩ : ∃ b, b = L[i] := ⟨_, rfl⟩
          have hbn : b < n := by
           have := H5.out.2.2.2.2.2.2.1 b (by rw [← HJ.out.2.2.2.1, hb]; exact List.getElem_mem hiL)
           exact this
          have hbc : wq8.cell? ⟨bx, i, none⟩ = some (.int .i64 (b : Nat)) := by
           have hr := hX
           unfold FreshInts at hr
           rw [H7.out.2.2.2.2.2.2.2.2.2] at hr
           have h2 := (row_put hr (i := i) (by omega)).1
           rw [h2, List.getElem?_map]
           have h3 : (natI (L.take t))[i]? = some (b : Int) := by
            simp [natI, List.getElem?_map, List.getElem?_take_of_lt hil, hiL, hb]
           rw [h3]; rfl
          have hnext : L.take (i + 1) = L.take i ++ [b] := by rw [List.take_succ_eq_append_getElem hiL, hb]
          obtain ⟨gp, p0, -, pl, -, ep, p1, p2, xp, fp, hcp, P9, e9, h9⟩ := h8.putP hbn (VS8.length : Int)
          obtain ⟨-, -, -, -, x4, x5, -⟩ := h8.cells
          rw [ep] at x4
          obtain ⟨p8c, hp8⟩ : ∃ p8c, p8c = P8.2.1 := ⟨_, rfl⟩
          rw [← hp8] at x4 p1 p2
          have H8 := Lib.hid (And.intro h8 (And.intro hX (And.intro xA (And.intro xM (And.intro xK (And.intro xP (And.intro xV (And.intro hc8 (And.intro hnext (And.intro pl (And.intro p0 (And.intro hcp (And.intro e9 h9)))))))))))))
          clear h8 hX xA xM xK xP xV hc8 hnext pl p0 ep hp8 hb hiL hcp e9 h9
          go_wp2_with fail
          clear hbc
          go_still_tail 10, (by kernel_rfl)
          change wpList _ _ _ _ _ wq8.drew
          have hdw := (Chg.refl [] wq8).drew
          obtain ⟨wd, ed⟩ : ∃ z, z = wq8.drew := ⟨_, rfl⟩
          rw [← ed] at hdw ⊢
          have xd := hdw.cell xp (by simp)
          have fd : wd.frozen? ⟨gp, b, none⟩ = false := by rw [ed]; exact fp
          have ED := Lib.hid ed
          clear x4 x5 xp fp hdw ed
          go_wp2_with fail
          clear xd fd p1 p2
          obtain ⟨w9, hw⟩ : ∃ w9, w9 = wd.setCell ⟨gp, b, none⟩ (.int .i64 (VS8.length : Int)) := ⟨_, rfl⟩
          rw [← hw]
          rw [ED.out] at hw
          have HW9 := Lib.hid hw
          clear hw
          go_roundg (t - (i + 1))
          case measure => omega
          case rel =>
           obtain ⟨h8, hX, xA, xM, xK, xP, xV, hc8, hnext, pl, p0, hcp, e9, h9⟩ := H8.out
           have hw := HW9.out
           have hcw : Chg [gp] wq8 w9 := by rw [hw]; exact ((Chg.refl [gp] wq8).drew).setCell (p := ⟨gp, b, none⟩) (.inl (by simp)) _
           have hPo : P8.own = some gp := by show (Value.slice P8.1 _ _).ownBlock = _; rw [p0]; rfl
           have e9o : P9.own = P8.own := by unfold Is.own; rw [e9]
           have hlen : (V.parts.length : Int) = (VS8.length : Int) := by
            have := h8.len
            show _ = _
            rw [this]
           obtain ⟨g1, r0, -, -, -, -, -, -, -, -, r3, P10, f10, h10⟩ := (h8.chg0 (Chg.refl [] wq8).drew).putP hbn (VS8.length : Int)
           obtain rfl : g1 = gp := by rw [p0] at r0; simpa using r0.symm
           have f10o : P10.own = P8.own := by unfold Is.own; rw [f10]
           refine ⟨i + 1, rfl, by omega, by go_num, Lib.hid ⟨⟨A8, M8, K8, P10, la8, lc8, VS8, ?_, ?_, xA, xM, xK, xP.own f10o, xV⟩, hc8.own hcw (fun j hj => by rw [List.mem_singleton.1 hj]; exact pl)⟩⟩
           ·rw [hw, hnext, Cp.markT_snoc, hlen]
            rw [hlen] at h10
            exact h10
           ·exact hcw.row hX (fun k hk hm => by
             rw [List.mem_singleton.1 hm] at hk
             exact xP g1 hPo hk)
         ·obtain rfl : i = t := by omega
          have hXl : (natI (L.take i)).length = i := H7.out.2.2.2.2.2.2.2.2.2
          have hxc : (Is.cell (some ⟨bx, 0, none⟩, pc, natI (L.take i))) = .slice (some ⟨bx, 0, none⟩) i pc := by
           show Value.slice (some ⟨bx, 0, none⟩) (natI (L.take i)).length pc = _
           rw [hXl]
          have hsort := sortIs_any wq8 w0.heap.size (some ⟨bx, 0, none⟩, pc, natI (L.take i)) hX (by rw [hXl]; omega)
          rw [hxc] at hsort
          have hpl : VS8.length ≤ 64 := by
           have h1 := h8.len
           have h2 := Cp.mid_parts H.out.1 H.out.2.2.2.2.1 H.out.2.2.2.2.2.2.2.2.2.2 (Nat.le_refl (Cp.row G a).length)
           have h3 := H.out.1.few
           rw [← HG.out.2.1, ← H5v.out] at h2
           have h4 : VS8.length = V.parts.length := h1
           omega
          have H8 := Lib.hid (And.intro h8 (And.intro hX (And.intro xA (And.intro xM (And.intro xK (And.intro xP (And.intro xV (And.intro hc8 (And.intro hsort (And.intro hXl hxc))))))))))
          clear h8 hX xA xM xK xP xV hc8 hsort hXl hxc
          go_wp2_with fail
          refine H8.out.2.2.2.2.2.2.2.2.1.mono ?_
          rintro e w9 ⟨rfl, hs9, hcs⟩
          obtain ⟨h8, hX, xA, xM, xK, xP, xV, hc8, -, hXl, hxc⟩ := H8.out
          have hs10 : sorted (natI (L.take i)) = natI ((List.range n).filter (fun q => decide (q ∈ L.take i))) := by
           refine Cp.sort_part ?_ (fun x hx => ?_)
           ·have := H5.out.2.2.2.2.2.1
            rw [← HJ.out.2.2.2.1] at this
            exact this.sublist (List.take_sublist _ _)
           ·have := H5.out.2.2.2.2.2.2.1 x (by rw [← HJ.out.2.2.2.1]; exact List.mem_of_mem_take hx)
            exact this
          have hlz : (sorted (natI (L.take i))).length = i := by rw [sorted_length, hXl]
          have zo : Is.own (some ⟨bx, 0, none⟩, pc, sorted (natI (L.take i))) = Is.own (some ⟨bx, 0, none⟩, pc, natI (L.take i)) := by
           show (Value.slice (some ⟨bx, 0, none⟩) _ _).ownBlock = (Value.slice (some ⟨bx, 0, none⟩) _ _).ownBlock
           rfl
          have zc : Is.cell (some ⟨bx, 0, none⟩, pc, sorted (natI (L.take i))) = .slice (some ⟨bx, 0, none⟩) i pc := by
           show Value.slice (some ⟨bx, 0, none⟩) (sorted (natI (L.take i))).length pc = _
           rw [hlz]
          have h9 := h8.keepX hcs (X := (some ⟨bx, 0, none⟩, pc, natI (L.take i))) hX (fun k hk => by simpa using hk) xA xM xK xP xV
          have hc9 : Chg [] w0 w9 := hc8.own hcs (fun j hj => (row_lt (X := (some ⟨bx, 0, none⟩, pc, natI (L.take i))) hX (by simpa using hj)).1)
          have yA : Apt A8 (some ⟨bx, 0, none⟩, pc, sorted (natI (L.take i))) := fun k hk e => xA k hk (by rw [← zo]; exact e)
          have yM : Apt M8 (some ⟨bx, 0, none⟩, pc, sorted (natI (L.take i))) := fun k hk e => xM k hk (by rw [← zo]; exact e)
          have yK : Apt K8 (some ⟨bx, 0, none⟩, pc, sorted (natI (L.take i))) := fun k hk e => xK k hk (by rw [← zo]; exact e)
          have yP : Apt P8 (some ⟨bx, 0, none⟩, pc, sorted (natI (L.take i))) := fun k hk e => xP k hk (by rw [← zo]; exact e)
          have yV : ∀ q ∈ VS8, Apt q (some ⟨bx, 0, none⟩, pc, sorted (natI (L.take i))) := fun q hq k hk e => xV q hq k hk (by rw [← zo]; exact e)
          obtain ⟨-, -, -, -, -, x5, -⟩ := h9.cells
          obtain ⟨vl, hvl⟩ : ∃ vl, vl = VS8.length := ⟨_, rfl⟩
          rw [← hvl] at x5 hpl
          obtain ⟨j0, hj0, hy0, hy1, hy2⟩ := info_parts Tryz.infoInts
          have hcA := (Chg.refl [] w9).alloc (Obj.cells #[.slice (some ⟨bx, 0, none⟩) i pc] 34)
          have hrow9 : w9.ownsRow w0.heap.size 34 1 (.slice la8 vl lc8) vl (VS8.map Is.cell) := by rw [hvl]; exact h9.own.row
          have hrowA := hcA.row hrow9 (fun _ _ => by simp)
          have hb1 : ∀ u ∈ [Value.slice (some ⟨bx, 0, none⟩) i pc], u.oneCell' = true := by simp [Value.oneCell']
          have hb2 : vl + 1 ≤ maxLen ∧ (vl + 1) * 24 ≤ 140737488355328 := by simp only [maxLen]; omega
          have hnew := cells_at (w := w9.alloc (Obj.cells #[.slice (some ⟨bx, 0, none⟩) i pc] 34)) (heap_alloc_same _ _)
          have hszA : w0.heap.size ≤ (w9.alloc (Obj.cells #[.slice (some ⟨bx, 0, none⟩) i pc] 34)).heap.size := Nat.le_trans hc9.size hcA.size
          have hhA := hcA.heap h9.head (by simp)
          have HA := Lib.hid (And.intro hrowA (And.intro hb1 (And.intro hb2 (And.intro hnew (And.intro hszA (And.intro hhA (And.intro hcA (And.intro h9 (And.intro hc9 (And.intro hs9 (And.intro hs10 (And.intro zc (And.intro yA (And.intro yM (And.intro yK (And.intro yP (And.intro yV hvl)))))))))))))))))
          clear hrowA hb1 hb2 hnew hszA hhA hcA h9 hc9 hs9 hs10 zc yA yM yK yP yV hvl h8 hX xA xM xK xP xV hc8 hXl hxc hlz zo hcs hrow9
          go_wp2_with (at_builtin; refine wpList_append_own_at _ rfl _ _ 36 rfl w0.heap.size 34 j0 _ 1 24 Tryz.underlying36 hj0 hy0 hy1 hy2 rfl (by decide) (.slice la8 vl lc8) vl (VS8.map Is.cell) rfl HA.out.1 ⟨w9.heap.size, 0, none⟩ 1 1 [.slice (some ⟨bx, 0, none⟩) i pc] rfl rfl HA.out.2.2.2.1 HA.out.2.1 HA.out.2.2.1.1 HA.out.2.2.1.2 HA.out.2.2.2.2.1 ?_; intro v' w10 hr5 hg5 hn5 hb5; obtain ⟨a5, c5, rfl⟩ := ownsRow_slice hr5; have hh5 := grown_heap hg5 HA.out.2.2.2.2.2.1 (ownsRow_ne HA.out.1 HA.out.2.2.2.2.2.1 (by decide)); have hcell5 := cell_of_cells hh5 5; have hfree5 := free_of_cells hh5 5; simp only [Array.getElem?_eq_getElem, List.size_toArray, List.length_cons, List.length_nil, Nat.reduceAdd, Nat.reduceLT, List.getElem_toArray, List.getElem_cons_succ, List.getElem_cons_zero] at hcell5; have HW := Lib.hid (And.intro hr5 (And.intro hg5 hh5)); clear hr5 hg5 hn5 hb5 hh5 x5)
          refine bodyPost_end (v := .tuple #[]) (by simp [results, Tryz.results151, go_sem]) rfl ?_
          obtain ⟨-, -, -, -, -, hhA, hcA, h9, hc9, hs9, hs10, zc, yA, yM, yK, yP, yV, hvl⟩ := HA.out
          have hcs := (Chg.refl [sb] w10).setCell (p := ⟨sb, 5, none⟩) (.inl (by simp)) (.slice a5 (vl + 1) c5)
          have hset := heap_setCell_same HW.out.2.2 5 (.slice a5 (vl + 1) c5)
          have hcg : Chg (sb :: (Value.slice la8 VS8.length lc8).ownBlock.toList) w9 (w10.setCell ⟨sb, 5, none⟩ (.slice a5 (vl + 1) c5)) :=
           ((hcA.any).tr ((Chg.refl _ _).grown HW.out.2.1 (fun k hk => .inl (by rw [hvl] at hk; rw [hk]; simp)))).trans hcs (fun j hj => .inl (by rw [List.mem_singleton.1 hj]; simp))
          have hmore := h9.more hcg (fun k hk => by
           rcases List.mem_cons.1 hk with e | e
           ·exact .inl e
           ·exact .inr (by simpa using e)) (X := (some ⟨bx, 0, none⟩, pc, sorted (natI (L.take i)))) (la' := a5) (lc' := c5) hs9 hs10 yA yM yK yP yV (by
            have hr := hcs.row HW.out.1 (fun k hk hm => by
             rw [List.mem_singleton.1 hm] at hk
             exact ownsRow_ne HW.out.1 HW.out.2.2 (by decide) hk)
            rw [zc, ← hvl]
            exact hr) (by rw [← hvl]; simpa using hset)
          refine ⟨rfl, ⟨A8, M8, K8, P8, a5, c5, VS8 ++ [(some ⟨bx, 0, none⟩, pc, sorted (natI (L.take i)))], ?_⟩, ?_⟩
          ·have hT := HJ.out.2.2.1
           have e1 := H7.out.2.2.2.2.2.2.2.2.1
           rw [← e1] at hT
           rw [hT]
           exact hmore
          ·exact hc9.own hcg (fun j hj => by
            rcases List.mem_cons.1 hj with e | e
            ·rw [e]; exact h9.low
            ·exact (row_beyond h9.own.row (by simpa using e)).1)
  ·rw [Cp.visitT_met G _ s a e]
   exact visit_met w0 w sb ga n gc s a (by rw [hn]; exact hp.lt) hn64 e hc h
end Go.Proofs.YtlklmpjakeedcaaGreatDoor

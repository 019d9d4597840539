/-
 What is lent: grammars; that nodes and grammars are kept.
 Conditions: the lists read as data; they are not too long.
-/
import Derived.Test.YtlklmpjakeedcaaGreatDoorSEnLn4
import Derived.Test.YtlklmpjakeedcaaGreatDoorSEnWeR
set_option linter.unusedVariables false
set_option linter.unusedSimpArgs false
set_option linter.unnecessarySimpa false
namespace Go.Proofs.YtlklmpjakeedcaaGreatDoor
open Go.RowKit Go.MapKept Go.Shelf

theorem LentNs.at {B : Nat} {w : World} {b d : Nat} {L : List Cp} {m : Nat} (h : LentNs B w (some ⟨b, 0, none⟩) d L m) {i : Nat} (hi : i < (L ++ marksN m).length) (r : Nat) (hr : r < 9) : w.cell? ⟨b, i * 9 + r, none⟩ = (L ++ marksN m)[i].cells[r]? := by
 have hl : (L ++ marksN m).length = L.length + m := by rw [List.length_append, marksN_len]
 rcases h.nodes.2 with ⟨h0, h1⟩ | ⟨g, cap, cur, h0, hb, hg, hn, hc, hs, ht⟩
 ·cases h0
 ·cases h0
  have h1 := flat_get Cp.cells 9 cp_len (L ++ marksN m) i r hr
  rw [List.getElem?_eq_getElem hi, Option.bind_some] at h1
  have h3 : (L ++ marksN m)[i].cells[r]? = some ((L ++ marksN m)[i].cells[r]'(by rw [cp_len]; exact hr)) := List.getElem?_eq_getElem _
  rw [cell_of_cells hg, h3]
  have h2 : (nodesCells (L ++ marksN m))[i * 9 + r]? = some ((L ++ marksN m)[i].cells[r]'(by rw [cp_len]; exact hr)) := h1.trans h3
  rw [← ht, List.getElem?_take] at h2
  split at h2
  ·simpa using h2
  ·cases h2
theorem ints_pre {w : World} {a : Option Addr} {zs ys : List Int} (h : Ints w a (zs ++ ys)) : Ints w a zs := fun i hi => by
 obtain ⟨b, o, h1, h2⟩ := h i (by rw [List.length_append]; omega)
 exact ⟨b, o, h1, by rw [List.getElem_append_left hi] at h2; exact h2⟩
theorem LentP.read {B : Nat} {w : World} {p : Cp} (h : LentP B w p) : ∃ b, p.2.1 = some ⟨b, 0, none⟩ ∧ Ints w (some ⟨b, 0, none⟩) (p.1.kids ++ marksI 12) ∧ p.1.kids.length + 12 ≤ p.2.2 ∧ p.2.2 ≤ maxLen := by
 obtain ⟨b, h1, h2⟩ := h
 have h3 := row_base h2 (Nat.zero_le _)
 have h4 : OwnInts w (.slice (some ⟨b, 0, none⟩) (p.1.kids.length + 12) p.2.2) (p.1.kids ++ marksI 12) := by
  unfold OwnInts
  rw [List.length_append, marksI_len]
  exact h3
 obtain ⟨k1, k2, k3, k4⟩ := ownInts_read h4
 exact ⟨b, h1, k1, k3, k4⟩
/-- A grammar that is lent. -/
structure LentG (B : Nat) (w : World) (b1 d1 b2 d2 : Nat) (g : Gr) : Prop where
 rules : w.ownsRow B 53 2 (.slice (some ⟨b1, 0, none⟩) (g.rules.length + 12) d1) (g.rules.length + 12) (rulesCells (g.rules ++ marksR 12))
 nodes : ∃ L : List Cp, L.map (·.1) = g.nodes ∧ LentNs B w (some ⟨b2, 0, none⟩) d2 L 12
 wf : g.Wf
theorem LentG.chg0 {B : Nat} {w w' : World} {b1 d1 b2 d2 : Nat} {g : Gr} (h : LentG B w b1 d1 b2 d2 g) (hc : Chg [] w w') : LentG B w' b1 d1 b2 d2 g := by
 obtain ⟨h1, ⟨L, h2, h3⟩, h4⟩ := h
 exact ⟨hc.row h1 (fun _ _ => by simp), ⟨L, h2, h3.chg0 hc⟩, h4⟩
theorem LentG.readR {B : Nat} {w : World} {b1 d1 b2 d2 : Nat} {g : Gr} (h : LentG B w b1 d1 b2 d2 g) : Rules w (some ⟨b1, 0, none⟩) (g.rules ++ marksR 12) ∧ g.rules.length + 12 ≤ d1 ∧ d1 ≤ maxLen := by
 have h1 := row_base h.rules (Nat.zero_le _)
 have hl : (g.rules ++ marksR 12).length = g.rules.length + 12 := by rw [List.length_append, marksR_len]
 have h2 : w.ownsRow 0 53 2 (.slice (some ⟨b1, 0, none⟩) (g.rules.length + 12) d1) (g.rules ++ marksR 12).length (rulesCells (g.rules ++ marksR 12)) := by rw [hl]; exact h1
 obtain ⟨k1, k2, k3, k4⟩ := rules_row h2
 exact ⟨k1, k3, k4⟩
theorem LentNs.node {B : Nat} {w : World} {b d : Nat} {L : List Cp} {m : Nat} (h : LentNs B w (some ⟨b, 0, none⟩) d L m) {i : Nat} (hi : i < L.length) : ∃ bk, L[i].2.1 = some ⟨bk, 0, none⟩ ∧ NodeAt w b (i * 9) L[i].1 (some ⟨bk, 0, none⟩) L[i].1.kids.length L[i].2.2 ∧ Ints w (some ⟨bk, 0, none⟩) (L[i].1.kids ++ marksI 12) ∧ L[i].1.kids.length + 12 ≤ L[i].2.2 := by
 obtain ⟨bk, k1, k2, k3, k4⟩ := (h.kids _ (List.getElem_mem hi)).read
 have hi' : i < (L ++ marksN m).length := by rw [List.length_append]; omega
 have hat := fun r hr => h.at hi' r hr
 rw [List.getElem_append_left hi] at hat
 refine ⟨bk, k1, ⟨hat 0 (by decide), hat 1 (by decide), hat 2 (by decide), hat 3 (by decide), hat 4 (by decide), hat 5 (by decide), hat 6 (by decide), hat 7 (by decide), ?_, rfl, by omega, k4, ints_pre k2⟩, k2, k3⟩
 rw [hat 8 (by decide)]
 show some (Value.slice L[i].2.1 L[i].1.kids.length L[i].2.2) = _
 rw [k1]
theorem LentNs.cap {B : Nat} {w : World} {b d : Nat} {L : List Cp} {m : Nat} (h : LentNs B w (some ⟨b, 0, none⟩) d L m) : L.length + m ≤ d ∧ d ≤ maxLen := by
 rcases h.nodes.2 with ⟨h0, h1⟩ | ⟨g, cap, cur, h0, hb, hg, hn, hc, hs, ht⟩
 ·cases h0
 ·cases h0; exact ⟨hn, hc⟩
theorem LentG.gram {B : Nat} {w : World} {b1 d1 b2 d2 : Nat} {g : Gr} (h : LentG B w b1 d1 b2 d2 g) : GramAt w (some ⟨b1, 0, none⟩) g.rules.length d1 (some ⟨b2, 0, none⟩) g.nodes.length d2 g := by
 obtain ⟨r1, r2, r3⟩ := h.readR
 obtain ⟨-, ⟨L, hL, hN⟩, wf⟩ := h
 have hl : L.length = g.nodes.length := by rw [← hL, List.length_map]
 obtain ⟨c1, c2⟩ := hN.cap
 refine ⟨rfl, by omega, r3, fun i hi => ?_, rfl, by omega, c2, fun i hi => ?_, wf⟩
 ·obtain ⟨b, o, h1, h2, h3⟩ := r1 i (by rw [List.length_append]; omega)
  rw [List.getElem_append_left hi] at h2 h3
  exact ⟨b, o, h1, h2, h3⟩
 ·have hi' : i < L.length := by omega
  obtain ⟨bk, k1, k2, -, -⟩ := hN.node hi'
  have e : L[i].1 = g.nodes[i] := by
   have h1 : (L.map (·.1))[i]? = g.nodes[i]? := by rw [hL]
   rw [List.getElem?_map, List.getElem?_eq_getElem hi', List.getElem?_eq_getElem hi] at h1
   exact Option.some.inj h1
  rw [e] at k2
  exact ⟨b2, 0, _, _, _, rfl, by rw [Nat.zero_add]; exact k2⟩

set_option maxRecDepth 100000 in
set_option maxHeartbeats 2000000 in
theorem KeptNode_any (w : World) (x : Nd) (bk c : Nat) (b : Option Addr) (n m d : Nat) (hn : n = x.kids.length) (hm : m = x.kids.length) (hs : n ≤ 1099511627776) (hc : n + 12 ≤ c) (hcm : c ≤ maxLen) (hx : Ints w (some ⟨bk, 0, none⟩) (x.kids ++ marksI 12)) (hy : Ints w b x.kids) :
  Calls Tryz.prog 124 #[.agg (x.cells (some ⟨bk, 0, none⟩) n c), .agg (x.cells b m d)] w fun e w' => e = .returned (.bool true) ∧ Chg [] w w' := by
 have h1 : ∀ W, Chg [] w W → Calls Tryz.prog 125 #[.agg (x.cells (some ⟨bk, 0, none⟩) n c), .agg (x.cells b m d)] W fun e w' => e = .returned (.bool true) ∧ Chg [] W w' := fun W hW => by
  have := kitSameNode_any W x x (some ⟨bk, 0, none⟩) b n c m d hn hm (by omega) (ints_pre (hx.keep hW.kp)) (hy.keep hW.kp)
  rw [sameN_refl] at this
  exact this
 have h2 : ∀ W, Chg [] w W → Calls Tryz.prog 165 #[.slice (some ⟨bk, 0, none⟩) n c, .slice b m d] W fun e w' => e = .returned (.bool true) ∧ Chg [] W w' := fun W hW => KeptInts_any W bk 0 n c b m d x.kids hn hm hs hc hcm (hx.keep hW.kp) (hy.keep hW.kp)
 have H1 := Lib.hid h1
 have H2 := Lib.hid h2
 clear h1 h2 hn hm hs hc hcm hx hy
 unfold Nd.cells at H1 ⊢
 go_enter Tryz.func124, Tryz.ntmps124
 go_wp2_with fail
 refine (H1.out _ (((Chg.refl [] w).alloc _).alloc _)).mono ?_
 rintro e w2 ⟨rfl, hc2⟩
 have hb0 := hc2.heap (heap_alloc_lt (heap_alloc_same w (.cells #[.int .i64 x.k, .int .u64 x.c0, .int .u64 x.c1, .int .u64 x.c2, .int .u64 x.c3, .string x.s, .int .i64 x.r, .int .i64 x.l, .slice (some ⟨bk, 0, none⟩) n c] 65)) (.cells #[.int .i64 x.k, .int .u64 x.c0, .int .u64 x.c1, .int .u64 x.c2, .int .u64 x.c3, .string x.s, .int .i64 x.r, .int .i64 x.l, .slice b m d] 65)) (by simp)
 have hb1 := hc2.heap (heap_alloc_same (w.alloc (.cells #[.int .i64 x.k, .int .u64 x.c0, .int .u64 x.c1, .int .u64 x.c2, .int .u64 x.c3, .string x.s, .int .i64 x.r, .int .i64 x.l, .slice (some ⟨bk, 0, none⟩) n c] 65)) (.cells #[.int .i64 x.k, .int .u64 x.c0, .int .u64 x.c1, .int .u64 x.c2, .int .u64 x.c3, .string x.s, .int .i64 x.r, .int .i64 x.l, .slice b m d] 65)) (by simp)
 simp only [World.size_alloc] at hb1
 have HC := Lib.hid ((((Chg.refl [] w).alloc _).alloc _).tr0 hc2)
 have x8 := (cells9 hb0).2.2.2.2.2.2.2.2
 have y8 := (cells9 hb1).2.2.2.2.2.2.2.2
 clear hc2 hb0 hb1
 go_wp2_with fail
 refine (H2.out _ HC.out).mono ?_
 rintro e w3 ⟨rfl, hc3⟩
 have HD := Lib.hid (HC.out.tr hc3)
 clear hc3 x8 y8
 go_wp2_with fail
 go_ret
 exact ⟨rfl, HD.out⟩

set_option maxRecDepth 100000 in
set_option maxHeartbeats 4000000 in
theorem KeptNodes_any (w : World) (b : Nat) (n c : Nat) (a : Option Addr) (n2 c2 : Nat) (L : List Cp) (ns : List Nd) (hL : L.map (·.1) = ns) (hn : n = ns.length) (hn2 : n2 = ns.length) (hs : n ≤ 1099511627776) (hk : ∀ x ∈ ns, x.kids.length ≤ 1099511627776) (hz : LentNs 0 w (some ⟨b, 0, none⟩) c L 12) (hl : Nodes w a ns) :
  Calls Tryz.prog 89 #[.slice (some ⟨b, 0, none⟩) n c, .slice a n2 c2] w fun e w' => e = .returned (.bool true) ∧ Chg [] w w' := by
 obtain rfl : n2 = n := by omega
 have hLl : L.length = n2 := by rw [hn, ← hL, List.length_map]
 obtain ⟨hc1, hcm⟩ := hz.cap
 have hc : n2 + 12 ≤ c := by omega
 have hcm' : c ≤ 9223372036854775807 := by simp only [maxLen] at hcm; exact hcm
 have H := Lib.hid (And.intro hn (And.intro hz (And.intro hl (And.intro hL (And.intro hk hLl)))))
 clear hn hn2 hz hl hcm hL hLl hc1 hk
 go_enter Tryz.func89, Tryz.ntmps89
 go_wp2_with fail
 go_loopg [6] (n2 + 12) (fun dd iv wr => ∃ i : Nat, dd = n2 + 12 - i ∧ i ≤ n2 + 12 ∧ iv = .int .i64 i ∧ Hid (Chg [] w wr))
 case atStart => exact ⟨0, rfl, Nat.zero_le _, rfl, Lib.hid (Chg.refl _ _)⟩
 case round =>
  obtain ⟨i, rfl, hi, rfl, hin⟩ := hrel
  obtain ⟨wq, rfl⟩ : ∃ wq, wq = wr := ⟨_, rfl⟩
  by_cases hlt : i < n2 + 12
  ·by_cases hiz : i < n2
   ·have hzl : i < ns.length := by rw [← H.out.1]; exact hiz
    have hiL : i < L.length := by rw [H.out.2.2.2.2.2]; exact hiz
    obtain ⟨bk, k1, k2, k3, k4⟩ := (H.out.2.1.chg0 hin.out).node hiL
    obtain ⟨b2, o2, ak, nk, ck, rfl, hy⟩ := (H.out.2.2.1.keep hin.out.kp) i hzl
    have e : L[i].1 = ns[i] := by
     have h1 : (L.map (·.1))[i]? = ns[i]? := by rw [H.out.2.2.2.1]
     rw [List.getElem?_map, List.getElem?_eq_getElem hiL, List.getElem?_eq_getElem hzl] at h1
     exact Option.some.inj h1
    have hkl := H.out.2.2.2.2.1 _ (List.getElem_mem hzl)
    rw [e] at k2 k3 k4
    obtain ⟨x, hx⟩ : ∃ x, x = ns[i] := ⟨_, rfl⟩
    obtain ⟨xc, hxc⟩ : ∃ xc, xc = L[i].2.2 := ⟨_, rfl⟩
    rw [← hx] at k2 k3 k4
    rw [← hxc] at k2 k4
    rw [← hx] at hy hkl
    have hnk := hy.len
    have cA := calls_rg (w := wq) (fun w1 h1 => KeptNode_any w1 x bk xc ak x.kids.length nk ck rfl hnk hkl k4 k2.cap (k3.keep h1.kp) (hy.ints.keep h1.kp))
    unfold Nd.cells at cA
    have ks := k2
    obtain ⟨p0, p1, p2, p3, p4, p5, p6, p7, p8, -, -, -, -⟩ := k2
    obtain ⟨q0, q1, q2, q3, q4, q5, q6, q7, q8, -, -, -, -⟩ := hy
    replace p0 := cell_rg p0
    replace p1 := cell_rg p1
    replace p2 := cell_rg p2
    replace p3 := cell_rg p3
    replace p4 := cell_rg p4
    replace p5 := cell_rg p5
    replace p6 := cell_rg p6
    replace p7 := cell_rg p7
    replace p8 := cell_rg p8
    replace q0 := cell_rg q0
    replace q1 := cell_rg q1
    replace q2 := cell_rg q2
    replace q3 := cell_rg q3
    replace q4 := cell_rg q4
    replace q5 := cell_rg q5
    replace q6 := cell_rg q6
    replace q7 := cell_rg q7
    replace q8 := cell_rg q8
    have hd1 : decide ((i : Int) < n2) = true := decide_eq_true (by omega)
    have hd2 : decide (n2 ≤ i) = false := decide_eq_false (by omega)
    clear k1 k3 k4 e hkl hx hxc hnk hzl hiL ks
    go_wp2_with fail
    refine wp_region_quiet_below (by kernel_rfl) (by kernel_rfl) ?_
    repeat (go_big_quiet_step (with_reducible exact cA _ _))
    refine wpQuiet_nil ?_
    intro w7 hw7
    have HW := Lib.hid (hin.out.tr (chg_of_rg hw7))
    clear hw7 p0 p1 p2 p3 p4 p5 p6 p7 p8 q0 q1 q2 q3 q4 q5 q6 q7 q8 hd1 hd2 cA
    go_wp2_with fail
    go_roundg (n2 + 12 - (i + 1))
    case measure => omega
    case rel => exact ⟨i + 1, rfl, by omega, by go_num, HW⟩
   ·have hiL : i < (L ++ marksN 12).length := by rw [List.length_append, marksN_len, H.out.2.2.2.2.2]; exact hlt
    have hat := fun r hr => (H.out.2.1.chg0 hin.out).at hiL r hr
    have hx2 : (L ++ marksN 12)[i] = (({ bareN 0 with r := markZ 1 ((i : Int) - n2) } : Nd), none, 0) := by
     have hzl : L.length ≤ i := by rw [H.out.2.2.2.2.2]; omega
     rw [List.getElem_append_right hzl]
     simp only [marksN, List.getElem_map, List.getElem_range, markNd]
     congr 3
     have := H.out.2.2.2.2.2
     omega
    rw [hx2] at hat
    have cA := calls_rg (w := wq) (fun w1 h1 => markNode_any w1 1 ((i : Int) - n2) (by omega) (by omega) (by omega) (by omega))
    have cB := calls_rg (w := wq) (fun w1 h1 => kitSameNode_any w1 ({ bareN 0 with r := markZ 1 ((i : Int) - n2) } : Nd) ({ bareN 0 with r := markZ 1 ((i : Int) - n2) } : Nd) none none 0 0 0 0 rfl rfl (by omega) (Ints.nil _ _) (Ints.nil _ _))
    rw [sameN_refl] at cB
    obtain ⟨z, hzv⟩ : ∃ z, z = markZ 1 ((i : Int) - n2) := ⟨_, rfl⟩
    rw [← hzv] at hat cA cB
    unfold Nd.cells at cA cB
    simp only [bareN] at cA cB
    have p0 : wq.cell? ⟨b, i * 9, none⟩ = some (.int .i64 0) := hat 0 (by decide)
    have p1 : wq.cell? ⟨b, i * 9 + 1, none⟩ = some (.int .u64 0) := hat 1 (by decide)
    have p2 : wq.cell? ⟨b, i * 9 + 2, none⟩ = some (.int .u64 0) := hat 2 (by decide)
    have p3 : wq.cell? ⟨b, i * 9 + 3, none⟩ = some (.int .u64 0) := hat 3 (by decide)
    have p4 : wq.cell? ⟨b, i * 9 + 4, none⟩ = some (.int .u64 0) := hat 4 (by decide)
    have p5 : wq.cell? ⟨b, i * 9 + 5, none⟩ = some (.string ⟨#[]⟩) := hat 5 (by decide)
    have p6 : wq.cell? ⟨b, i * 9 + 6, none⟩ = some (.int .i64 z) := hat 6 (by decide)
    have p7 : wq.cell? ⟨b, i * 9 + 7, none⟩ = some (.int .i64 0) := hat 7 (by decide)
    have p8 : wq.cell? ⟨b, i * 9 + 8, none⟩ = some (.slice none 0 0) := hat 8 (by decide)
    replace p0 := cell_rg p0
    replace p1 := cell_rg p1
    replace p2 := cell_rg p2
    replace p3 := cell_rg p3
    replace p4 := cell_rg p4
    replace p5 := cell_rg p5
    replace p6 := cell_rg p6
    replace p7 := cell_rg p7
    replace p8 := cell_rg p8
    have hd1 : decide ((i : Int) < n2) = false := decide_eq_false (by omega)
    have hd2 : decide (n2 ≤ i) = true := decide_eq_true (by omega)
    have hw1 : IntKind.i64.wrap ((i : Int) - n2) = (i : Int) - n2 := IntWalk.i64_in _ (by omega)
    clear hzv hat hx2 hiL
    go_wp2_with fail
    refine wp_region_quiet_below (by kernel_rfl) (by kernel_rfl) ?_
    repeat (go_big_quiet_step (first | (with_reducible exact cA _ _) | (with_reducible exact cB _ _)))
    refine wpQuiet_nil ?_
    intro w7 hw7
    have HW := Lib.hid (hin.out.tr (chg_of_rg hw7))
    clear hw7 p0 p1 p2 p3 p4 p5 p6 p7 p8 hd1 hd2 cA cB hw1
    go_wp2_with fail
    go_roundg (n2 + 12 - (i + 1))
    case measure => omega
    case rel => exact ⟨i + 1, rfl, by omega, by go_num, HW⟩
  ·obtain rfl : i = n2 + 12 := by omega
   go_wp2_with fail
   go_ret
   exact ⟨rfl, hin.out⟩

def NewLent (w : World) (g : Gr) (e : Ending) (w' : World) : Prop :=
 ∃ b1 d1 b2 d2, e = .returned (.agg #[.slice (some ⟨b1, 0, none⟩) g.rules.length d1, .slice (some ⟨b2, 0, none⟩) g.nodes.length d2]) ∧ LentG w.heap.size w' b1 d1 b2 d2 g ∧ Chg [] w w'

set_option maxRecDepth 100000 in
set_option maxHeartbeats 4000000 in
theorem LentGrammar_any (w : World) (a1 : Option Addr) (n1 c1 : Nat) (a2 : Option Addr) (n2 c2 : Nat) (g : Gr) (hg : GramAt w a1 n1 c1 a2 n2 c2 g) (hs1 : n1 ≤ 1099511627776) (hs2 : n2 ≤ 1099511627776) (hk : ∀ x ∈ g.nodes, x.kids.length ≤ 1099511627776) :
  Calls Tryz.prog 46 #[.agg #[.slice a1 n1 c1, .slice a2 n2 c2]] w (NewLent w g) := by
 have HG := Lib.hid (And.intro hg (And.intro hs1 (And.intro hs2 hk)))
 clear hg hs1 hs2 hk
 go_enter Tryz.func46, Tryz.ntmps46
 go_wp2_with fail
 refine (LentRules_any _ _ _ _ g.rules HG.out.1.e1 HG.out.2.1 (HG.out.1.rules.keep (((Chg.refl [] w).alloc _).alloc _).kp)).mono ?_
 rintro e w3 ⟨b1, d1, rfl, hR, hc3⟩
 have hb0 := hc3.heap (heap_alloc_lt (heap_alloc_same w (.cells #[.slice a1 n1 c1, .slice a2 n2 c2] 31)) (.cells #[.slice none 0 0, .slice none 0 0] 31)) (by simp)
 have hb1 := hc3.heap (heap_alloc_same (w.alloc (.cells #[.slice a1 n1 c1, .slice a2 n2 c2] 31)) (.cells #[.slice none 0 0, .slice none 0 0] 31)) (by simp)
 have hl := hc3.size
 simp only [World.size_alloc] at hb1 hl hR
 have hcw := (((Chg.refl [] w).alloc (.cells #[.slice a1 n1 c1, .slice a2 n2 c2] 31)).alloc (.cells #[.slice none 0 0, .slice none 0 0] 31)).tr0 hc3
 have hR := row_base hR (show w.heap.size ≤ w.heap.size + 1 + 1 by omega)
 obtain ⟨x0, x1⟩ := cells2 hb0
 have f0 := free_of_cells hb0 0
 have f1 := free_of_cells hb0 1
 obtain ⟨nr, hnr⟩ : ∃ nr, nr = g.rules.length := ⟨_, rfl⟩
 have hS := (Chg.refl [w.heap.size] w3).setCell (p := ⟨w.heap.size, 0, none⟩) (.inl (by simp)) (.slice (some ⟨b1, 0, none⟩) nr d1)
 have hq0 : (w3.setCell ⟨w.heap.size, 0, none⟩ (.slice (some ⟨b1, 0, none⟩) nr d1)).heap[w.heap.size]? = some (.cells #[.slice (some ⟨b1, 0, none⟩) nr d1, .slice a2 n2 c2] 31 (0, 0)) := by simpa using heap_setCell_same hb0 0 (.slice (some ⟨b1, 0, none⟩) nr d1)
 have hq1 := heap_set_ne (c := w.heap.size) (i := 0) (u := .slice (some ⟨b1, 0, none⟩) nr d1) hb1 (by omega)
 have hcS : Chg [] w (w3.setCell ⟨w.heap.size, 0, none⟩ (.slice (some ⟨b1, 0, none⟩) nr d1)) := hcw.setCell (p := ⟨w.heap.size, 0, none⟩) (.inr (Nat.le_refl _)) _
 have hRS := hS.rowOf hR (fun k hk => by simp only [List.mem_singleton] at hk; subst hk; exact .of_cells hb0 (by decide))
 have H3 := Lib.hid (And.intro hcS (And.intro hRS (And.intro hq0 (And.intro hq1 (And.intro hnr hl)))))
 rw [← hnr]
 clear hR hc3 hb0 hb1 hcw hS hq0 hq1 hcS hRS hnr hl
 go_wp2_with fail
 obtain ⟨w4, e4⟩ : ∃ w4, w4 = w3.setCell ⟨w.heap.size, 0, none⟩ (.slice (some ⟨b1, 0, none⟩) nr d1) := ⟨_, rfl⟩
 rw [← e4] at H3 ⊢
 clear e4 x0 x1 f0 f1
 refine (LentNodes_any w4 _ _ _ g.nodes HG.out.1.e2 HG.out.2.2.1 (HG.out.1.nodes.keep H3.out.1.kp) HG.out.2.2.2).mono ?_
 rintro e w5 ⟨b2, d2, L, rfl, hL, hN, hc5⟩
 obtain ⟨nn, hnn⟩ : ∃ nn, nn = g.nodes.length := ⟨_, rfl⟩
 rw [← hnn]
 have hb0 := hc5.heap H3.out.2.2.1 (by simp)
 have hb1 := hc5.heap H3.out.2.2.2.1 (by simp)
 have hl4 := H3.out.1.size
 obtain ⟨x0, x1⟩ := cells2 hb0
 obtain ⟨y0, y1⟩ := cells2 hb1
 have f0 := free_of_cells hb0 0
 have f1 := free_of_cells hb0 1
 have g0 := free_of_cells hb1 0
 have g1 := free_of_cells hb1 1
 have H5 := Lib.hid (And.intro (H3.out.1.tr hc5) (And.intro (hc5.row H3.out.2.1 (fun _ _ => by simp)) (And.intro hN (And.intro hL (And.intro hnn (And.intro hb0 hb1))))))
 clear hc5 hN hL hnn hb0 hb1
 go_wp2_with fail
 have hch : Chg [w.heap.size, w.heap.size + 1] w5 (((w5.setCell ⟨w.heap.size, 1, none⟩ (.slice (some ⟨b2, 0, none⟩) nn d2)).setCell ⟨w.heap.size + 1, 0, none⟩ (.slice (some ⟨b1, 0, none⟩) nr d1)).setCell ⟨w.heap.size + 1, 1, none⟩ (.slice (some ⟨b2, 0, none⟩) nn d2)) :=
  (((Chg.refl _ w5).setCell (p := ⟨w.heap.size, 1, none⟩) (.inl (by simp)) _).setCell (p := ⟨w.heap.size + 1, 0, none⟩) (.inl (by simp)) _).setCell (p := ⟨w.heap.size + 1, 1, none⟩) (.inl (by simp)) _
 have hz : (((w5.setCell ⟨w.heap.size, 1, none⟩ (.slice (some ⟨b2, 0, none⟩) nn d2)).setCell ⟨w.heap.size + 1, 0, none⟩ (.slice (some ⟨b1, 0, none⟩) nr d1)).setCell ⟨w.heap.size + 1, 1, none⟩ (.slice (some ⟨b2, 0, none⟩) nn d2)).heap[w.heap.size + 1]? = some (.cells #[.slice (some ⟨b1, 0, none⟩) nr d1, .slice (some ⟨b2, 0, none⟩) nn d2] 31 (0, 0)) := by
  have z0 := heap_set_ne (c := w.heap.size) (i := 1) (u := .slice (some ⟨b2, 0, none⟩) nn d2) H5.out.2.2.2.2.2.2 (by omega)
  have z1 := heap_setCell_same z0 0 (.slice (some ⟨b1, 0, none⟩) nr d1)
  have z2 := heap_setCell_same z1 1 (.slice (some ⟨b2, 0, none⟩) nn d2)
  simpa using z2
 obtain ⟨c0, c1'⟩ := cells2 hz
 have hTl := lt_of_block hz
 refine bodyPost_ret (v := .agg #[.slice (some ⟨b1, 0, none⟩) nr d1, .slice (some ⟨b2, 0, none⟩) nn d2]) (by simp [results, Tryz.results46, go_sem, c0, c1', hTl]) rfl ?_
 have hnot : ∀ e, 31 ≠ e → ∀ k ∈ [w.heap.size, w.heap.size + 1], NotRow w5 e k := fun e he k hk => by
  simp only [List.mem_cons, List.not_mem_nil, or_false] at hk
  rcases hk with rfl | rfl
  ·exact .of_cells H5.out.2.2.2.2.2.1 he
  ·exact .of_cells H5.out.2.2.2.2.2.2 he
 refine ⟨b1, d1, b2, d2, by rw [H3.out.2.2.2.2.1, H5.out.2.2.2.2.1], ⟨?_, ⟨L, H5.out.2.2.2.1, ?_⟩, HG.out.1.wf⟩, H5.out.1.trans hch ?_⟩
 ·exact hch.rowOf H5.out.2.1 (hnot _ (by decide))
 ·have h9 := H5.out.2.2.1.below (show w.heap.size ≤ w4.heap.size from hl4)
  exact ⟨hch.rowOf h9.nodes (hnot _ (by decide)), fun p hp => (h9.kids p hp).chg hch (hnot _ (by decide))⟩
 ·intro k hk
  simp only [List.mem_cons, List.not_mem_nil, or_false] at hk
  rcases hk with rfl | rfl <;> right <;> omega

set_option maxRecDepth 100000 in
set_option maxHeartbeats 4000000 in
theorem KeptGrammar_any (w : World) (b1 d1 b2 d2 : Nat) (a1 : Option Addr) (n1 c1 : Nat) (a2 : Option Addr) (n2 c2 : Nat) (g : Gr) (m1 m2 : Nat) (hm1 : m1 = g.rules.length) (hm2 : m2 = g.nodes.length) (hl : LentG 0 w b1 d1 b2 d2 g) (hg : GramAt w a1 n1 c1 a2 n2 c2 g) (hs1 : n1 ≤ 1099511627776) (hs2 : n2 ≤ 1099511627776) (hk : ∀ x ∈ g.nodes, x.kids.length ≤ 1099511627776) :
  Calls Tryz.prog 53 #[.agg #[.slice (some ⟨b1, 0, none⟩) m1 d1, .slice (some ⟨b2, 0, none⟩) m2 d2], .agg #[.slice a1 n1 c1, .slice a2 n2 c2]] w fun e w' => e = .returned (.bool true) ∧ Chg [] w w' := by
 have h1 : ∀ W, Chg [] w W → Calls Tryz.prog 87 #[.agg #[.slice (some ⟨b1, 0, none⟩) m1 d1, .slice (some ⟨b2, 0, none⟩) m2 d2], .agg #[.slice a1 n1 c1, .slice a2 n2 c2]] W fun e w' => e = .returned (.bool true) ∧ Chg [] W w' := fun W hW => by
  have := kitSameGram_any W _ _ _ _ _ _ _ _ _ _ _ _ _ _ (hl.gram.keep hW.kp) (hg.keep hW.kp)
  rw [sameG_refl] at this
  rw [hm1, hm2]
  exact this
 have h2 : ∀ W, Chg [] w W → Calls Tryz.prog 88 #[.slice (some ⟨b1, 0, none⟩) m1 d1, .slice a1 n1 c1] W fun e w' => e = .returned (.bool true) ∧ Chg [] W w' := fun W hW => by
  obtain ⟨r1, r2, r3⟩ := (hl.chg0 hW).readR
  exact KeptRules_any W b1 0 m1 d1 a1 n1 c1 g.rules hm1 hg.e1 (by rw [hm1, ← hg.e1]; exact hs1) (by omega) r3 r1 (hg.rules.keep hW.kp)
 have h3 : ∀ W, Chg [] w W → Calls Tryz.prog 89 #[.slice (some ⟨b2, 0, none⟩) m2 d2, .slice a2 n2 c2] W fun e w' => e = .returned (.bool true) ∧ Chg [] W w' := fun W hW => by
  obtain ⟨-, ⟨L, hL, hN⟩, -⟩ := hl.chg0 hW
  exact KeptNodes_any W b2 m2 d2 a2 n2 c2 L g.nodes hL hm2 hg.e2 (by rw [hm2, ← hg.e2]; exact hs2) hk hN (hg.nodes.keep hW.kp)
 have H1 := Lib.hid h1
 have H2 := Lib.hid h2
 have H3 := Lib.hid h3
 clear h1 h2 h3 hm1 hm2 hl hg hs1 hs2 hk
 go_enter Tryz.func53, Tryz.ntmps53
 go_wp2_with fail
 refine (H1.out _ (((Chg.refl [] w).alloc _).alloc _)).mono ?_
 rintro e w2 ⟨rfl, hc2⟩
 have hb0 := hc2.heap (heap_alloc_lt (heap_alloc_same w (.cells #[.slice (some ⟨b1, 0, none⟩) m1 d1, .slice (some ⟨b2, 0, none⟩) m2 d2] 31)) (.cells #[.slice a1 n1 c1, .slice a2 n2 c2] 31)) (by simp)
 have hb1 := hc2.heap (heap_alloc_same (w.alloc (.cells #[.slice (some ⟨b1, 0, none⟩) m1 d1, .slice (some ⟨b2, 0, none⟩) m2 d2] 31)) (.cells #[.slice a1 n1 c1, .slice a2 n2 c2] 31)) (by simp)
 simp only [World.size_alloc] at hb1
 have HC := Lib.hid (And.intro ((((Chg.refl [] w).alloc _).alloc _).tr0 hc2) (And.intro hb0 hb1))
 obtain ⟨x0, x1⟩ := cells2 hb0
 obtain ⟨y0, y1⟩ := cells2 hb1
 clear hc2 hb0 hb1
 go_wp2_with fail
 refine (H2.out _ HC.out.1).mono ?_
 rintro e w3 ⟨rfl, hc3⟩
 clear x0 x1 y0 y1
 obtain ⟨x0, x1⟩ := cells2 (hc3.heap HC.out.2.1 (by simp))
 obtain ⟨y0, y1⟩ := cells2 (hc3.heap HC.out.2.2 (by simp))
 have HD := Lib.hid (HC.out.1.tr hc3)
 clear hc3
 go_wp2_with fail
 refine (H3.out _ HD.out).mono ?_
 rintro e w4 ⟨rfl, hc4⟩
 have HE := Lib.hid (HD.out.tr hc4)
 clear hc4 x0 x1 y0 y1
 go_wp2_with fail
 go_ret
 exact ⟨rfl, HE.out⟩
end Go.Proofs.YtlklmpjakeedcaaGreatDoor

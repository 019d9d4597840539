/-
  The document's answer of layer 15: the grammar mended.
  Conditions: the grammar is not too long.
-/
import Derived.Test.YtibgfgfmljhimaaGreatWe9Tf1
import Derived.Test.YtibgfgfmljhimaaGreatWe9WeG
import Derived.Test.YtibgfgfmljhimaaGreatWe9Ln2
import Derived.Test.YtibgfgfmljhimaaGreatWe9Ln3
import Derived.Test.YtibgfgfmljhimaaGreatWe9NE0
set_option linter.unusedVariables false
set_option linter.unusedSimpArgs false
set_option linter.unnecessarySimpa false
namespace Go.Proofs.YtibgfgfmljhimaaGreat
open Go.RowKit Go.MapKept Go.Shelf

theorem mendG_wf {g : Gr} (h : g.Wf) : (mendG g).Wf := by
  refine ⟨fun x hx => ?_, h.names, h.bodies⟩
  simp only [mendG, mendL, List.mem_mapIdx] at hx
  obtain ⟨j, hj, rfl⟩ := hx
  have hw := h.nodes _ (List.getElem_mem hj)
  split
  · exact ⟨by show I64 10; decide, hw.r, hw.l, hw.kids, hw.s⟩
  · exact hw
/-- What the reference tells of a grammar mended. -/
def MendR (w : World) (g : Gr) (e : Ending) (w' : World) : Prop :=
  (if rightB g then ∃ b1 n1 d1 b2 n2 d2, e = .returned (.tuple #[.agg #[.slice b1 n1 d1, .slice b2 n2 d2], .bool true]) ∧ GramAt w' b1 n1 d1 b2 n2 d2 (mendG g)
   else e = .returned (.tuple #[.agg #[.slice none 0 0, .slice none 0 0], .bool false])) ∧ Chg [] w w'

theorem mend_kid {B : Nat} {wq w6 : World} {O i : Nat} {sv : Value} {b1 : Option Addr} {d1 : Nat} {b : Option Addr} {d : Nat} {L : List Cp} {rs : List Rl} {a6 : Option Addr} {nk c6 : Nat} {zs : List Value} {cs : Array Value} {xk xc0 xc1 xc2 xc3 xr xl : Int} {xs : ByteArray}
    (hc6 : Chg [] wq w6) (hr6 : w6.ownsRow wq.heap.size 3 1 (.slice a6 nk c6) nk zs) (hown : OwnG B wq b1 d1 b d L rs) (hO : wq.heap[O]? = some (.cells #[sv, .slice b i d] 25 (0, 0))) (hB : B ≤ wq.heap.size) (hLl : L.length = i) (hX6 : w6.heap[wq.heap.size]? = some (.cells cs 53 (0, 0))) :
    ((w6.setCell ⟨wq.heap.size, 8, none⟩ (.slice a6 nk c6)).alloc (.cells #[.int .i64 xk, .int .u64 xc0, .int .u64 xc1, .int .u64 xc2, .int .u64 xc3, .string xs, .int .i64 xr, .int .i64 xl, .slice a6 nk c6] 53)).ownsRow B 53 9 (.slice b i d) i (nodesCells L) ∧
    (∀ (j : Nat) (u : Value), ([.int .i64 xk, .int .u64 xc0, .int .u64 xc1, .int .u64 xc2, .int .u64 xc3, .string xs, .int .i64 xr, .int .i64 xl, .slice a6 nk c6] : List Value)[j]? = some u → ((w6.setCell ⟨wq.heap.size, 8, none⟩ (.slice a6 nk c6)).alloc (.cells #[.int .i64 xk, .int .u64 xc0, .int .u64 xc1, .int .u64 xc2, .int .u64 xc3, .string xs, .int .i64 xr, .int .i64 xl, .slice a6 nk c6] 53)).cell? ((⟨w6.heap.size, 0, none⟩ : Addr).add j) = some u) ∧ (∀ u ∈ ([.int .i64 xk, .int .u64 xc0, .int .u64 xc1, .int .u64 xc2, .int .u64 xc3, .string xs, .int .i64 xr, .int .i64 xl, .slice a6 nk c6] : List Value), u.oneCell' = true) ∧ B ≤ ((w6.setCell ⟨wq.heap.size, 8, none⟩ (.slice a6 nk c6)).alloc (.cells #[.int .i64 xk, .int .u64 xc0, .int .u64 xc1, .int .u64 xc2, .int .u64 xc3, .string xs, .int .i64 xr, .int .i64 xl, .slice a6 nk c6] 53)).heap.size ∧
    ((w6.setCell ⟨wq.heap.size, 8, none⟩ (.slice a6 nk c6)).alloc (.cells #[.int .i64 xk, .int .u64 xc0, .int .u64 xc1, .int .u64 xc2, .int .u64 xc3, .string xs, .int .i64 xr, .int .i64 xl, .slice a6 nk c6] 53)).heap[O]? = some (.cells #[sv, .slice b i d] 25 (0, 0)) ∧ OwnG B ((w6.setCell ⟨wq.heap.size, 8, none⟩ (.slice a6 nk c6)).alloc (.cells #[.int .i64 xk, .int .u64 xc0, .int .u64 xc1, .int .u64 xc2, .int .u64 xc3, .string xs, .int .i64 xr, .int .i64 xl, .slice a6 nk c6] 53)) b1 d1 b d L rs ∧
    ((w6.setCell ⟨wq.heap.size, 8, none⟩ (.slice a6 nk c6)).alloc (.cells #[.int .i64 xk, .int .u64 xc0, .int .u64 xc1, .int .u64 xc2, .int .u64 xc3, .string xs, .int .i64 xr, .int .i64 xl, .slice a6 nk c6] 53)).ownsRow wq.heap.size 3 1 (.slice a6 nk c6) nk zs ∧ Chg [] wq ((w6.setCell ⟨wq.heap.size, 8, none⟩ (.slice a6 nk c6)).alloc (.cells #[.int .i64 xk, .int .u64 xc0, .int .u64 xc1, .int .u64 xc2, .int .u64 xc3, .string xs, .int .i64 xr, .int .i64 xl, .slice a6 nk c6] 53)) := by
  have hcS := (Chg.refl [wq.heap.size] w6).setCell (p := ⟨wq.heap.size, 8, none⟩) (.inl (by simp)) (.slice a6 nk c6)
  have hc8 : Chg [] wq ((w6.setCell ⟨wq.heap.size, 8, none⟩ (.slice a6 nk c6)).alloc (.cells #[.int .i64 xk, .int .u64 xc0, .int .u64 xc1, .int .u64 xc2, .int .u64 xc3, .string xs, .int .i64 xr, .int .i64 xl, .slice a6 nk c6] 53)) := (hc6.setCell (p := ⟨wq.heap.size, 8, none⟩) (.inr (Nat.le_refl _)) _).alloc _
  have hs : (w6.setCell ⟨wq.heap.size, 8, none⟩ (.slice a6 nk c6)).heap.size = w6.heap.size := by simp [World.setCell]
  have hnew := cells_at (w := (w6.setCell ⟨wq.heap.size, 8, none⟩ (.slice a6 nk c6)).alloc (.cells #[.int .i64 xk, .int .u64 xc0, .int .u64 xc1, .int .u64 xc2, .int .u64 xc3, .string xs, .int .i64 xr, .int .i64 xl, .slice a6 nk c6] 53)) (heap_alloc_same _ _)
  rw [hs] at hnew
  have hown8 := hown.chg0 hc8
  have hn := hown8.nodes
  rw [hLl] at hn
  exact ⟨hn, hnew, by simp [Value.oneCell'], Nat.le_trans hB hc8.size, hc8.heap hO (by simp), hown8, ((Chg.refl [] _).alloc _).row (hcS.rowOf hr6 (fun x hx => by simp only [List.mem_singleton] at hx; subst hx; exact .of_cells hX6 (by decide))) (fun _ _ => by simp), hc8⟩
theorem OwnG.snocM {B B' : Nat} {w8 w9 : World} {b1 : Option Addr} {d1 : Nat} {b b' : Option Addr} {d d' : Nat} {L : List Cp} {rs : List Rl} (h : OwnG B w8 b1 d1 b d L rs) {x : Nd} {a6 : Option Addr} {c6 : Nat} (hk : FreshInts B' w8 a6 c6 x.kids) (hB : B ≤ B') (hfr : ∀ p ∈ L, ∀ i, p.own = some i → i < B')
    (hr : w9.ownsRow B 53 9 (.slice b' (L.length + 1) d') (L.length + 1) (nodesCells L ++ Cp.cells (x, a6, c6))) (hg : w8.grownBy w9 (Value.slice b L.length d).ownBlock) : OwnG B w9 b1 d1 b' d' (L ++ [(x, a6, c6)]) rs := by
  have hc : Chg (Value.slice b L.length d).ownBlock.toList w8 w9 := (Chg.refl _ w8).grown hg (fun k hk => .inl (by rw [hk]; simp))
  have hnr : ∀ e', 53 ≠ e' → ∀ x ∈ (Value.slice b L.length d).ownBlock.toList, NotRow w8 e' x := fun e' he y hy => row_notrow h.nodes (by simpa using hy) he
  refine ⟨hc.rowOf h.rules (hnr _ (by decide)), ?_, fun p hp => ?_, ?_⟩
  · rw [List.length_append]
    simpa [nodesCells] using hr
  · rcases List.mem_append.1 hp with hp | hp
    · exact hc.rowOf (h.kids p hp) (hnr _ (by decide))
    · simp only [List.mem_singleton] at hp
      subst hp
      exact hc.rowOf (row_base hk hB) (hnr _ (by decide))
  · refine List.pairwise_append.2 ⟨h.apart, List.pairwise_singleton _ _, fun q hq p hp i j hi hj => ?_⟩
    simp only [List.mem_singleton] at hp
    subst hp
    have h1 := hfr q hq i hi
    have h2 := (row_beyond hk hj).1
    omega
theorem idle_get {g : Gr} {q : Nat} (h : q < (idleL g).length) : ∃ m : Nat, (idleL g)[q] = m ∧ m < g.nodes.length ∧ (idleL g).take (q + 1) = (idleL g).take q ++ [(m : Int)] := by
  have e := List.take_succ_eq_append_getElem h
  obtain ⟨m, h1, h2⟩ := idle_at (g := g) (pre := (idleL g).take q) (x := (idleL g)[q]) (by rw [← e]; exact List.take_prefix _ _)
  exact ⟨m, h1, h2, by rw [e, h1]⟩

set_option maxRecDepth 100000 in
set_option maxHeartbeats 16000000 in
theorem ref15Mend_any (w : World) (a1 : Option Addr) (n1 c1 : Nat) (a2 : Option Addr) (n2 c2 : Nat) (g : Gr) (hg : GramAt w a1 n1 c1 a2 n2 c2 g) (hk : ∀ x ∈ g.nodes, x.kids.length ≤ 1000000) :
    Calls Tryz.prog 77 #[.agg #[.slice a1 n1 c1, .slice a2 n2 c2]] w (MendR w g) := by
  obtain ⟨i0, hi0, hz0, hz1, hz2⟩ := info_parts Tryz.infoInt
  obtain ⟨j0, hj0, hy0, hy1, hy2⟩ := info_parts Tryz.infoNode
  obtain ⟨k0, hk0, hx0, hx1, hx2⟩ := info_parts Tryz.infoRule
  unfold MendR
  obtain ⟨r, hr⟩ : ∃ r, r = rightB g := ⟨_, rfl⟩
  rw [← hr]
  have H := Lib.hid (And.intro hg (And.intro hk hr))
  clear hg hk hr
  have hc1 := (((Chg.refl [] w).alloc (.cells #[.slice a1 n1 c1, .slice a2 n2 c2] 25)).alloc (.cells #[.slice none 0 0, .slice none 0 0] 25))
  have hb0 := heap_alloc_lt (heap_alloc_same w (.cells #[.slice a1 n1 c1, .slice a2 n2 c2] 25)) (.cells #[.slice none 0 0, .slice none 0 0] 25)
  have hb1 := heap_alloc_same (w.alloc (.cells #[.slice a1 n1 c1, .slice a2 n2 c2] 25)) (.cells #[.slice none 0 0, .slice none 0 0] 25)
  simp only [World.size_alloc] at hb1
  obtain ⟨x0, x1⟩ := cells2 hb0
  have hR := refRight_any _ a1 n1 c1 a2 n2 c2 g (H.out.1.keep hc1.kp)
  rw [← H.out.2.2] at hR
  have H1 := Lib.hid (And.intro hc1 (And.intro hb0 hb1))
  clear hc1 hb0 hb1
  go_enter Tryz.func77, Tryz.ntmps77
  go_wp2_with fail
  refine hR.mono ?_
  clear hR
  rintro e w1 ⟨rfl, hc1⟩
  have H1' := Lib.hid (And.intro (H1.out.1.tr hc1) (And.intro (hc1.heap H1.out.2.1 (by simp)) (hc1.heap H1.out.2.2 (by simp))))
  clear hc1 H1 x0 x1
  obtain ⟨x0, x1⟩ := cells2 H1'.out.2.1
  cases r with
  | false =>
    obtain ⟨y0, y1⟩ := cells2 H1'.out.2.2
    have f0 := free_of_cells H1'.out.2.2 0
    have f1 := free_of_cells H1'.out.2.2 1
    have hlb := lt_of_block H1'.out.2.2
    go_wp2_with fail
    obtain ⟨w4, e4, z, hch⟩ := two_setW (.slice none 0 0) (.slice none 0 0) H1'.out.2.2
    rw [← e4]
    obtain ⟨q0, q1⟩ := cells2 z
    refine bodyPost_ret (v := .tuple #[.agg #[.slice none 0 0, .slice none 0 0], .bool false]) (by simp [results, Tryz.results77, go_sem, q0, q1, lt_of_block z]) rfl ?_
    exact ⟨rfl, H1'.out.1.trans hch (fun j hj => .inr (by simp at hj; omega))⟩
  | true =>
    go_wp2_with fail
    refine (ref15All_any w1 a1 n1 c1 a2 n2 c2 g (H.out.1.keep H1'.out.1.kp)).mono ?_
    rintro e w2 ⟨ra, rc, rfl, hf2, hc2⟩
    obtain ⟨al, hal⟩ : ∃ al, al = (idleL g).length := ⟨_, rfl⟩
    have hal2 : al ≤ 2048 := by rw [hal]; exact idleL_few g
    unfold FreshInts at hf2
    rw [← hal] at hf2 ⊢
    have hN2 : n2 ≤ 2048 := by
      have h1 := H.out.1.e2
      have := (right_sizes H.out.2.2.symm).2.2
      omega
    have hN1 : n1 ≤ 2048 := by
      have h1 := H.out.1.e1
      have := (right_sizes H.out.2.2.symm).2.1
      omega
    have hc20 := H1'.out.1.tr hc2
    have hb2 := hc2.heap H1'.out.2.1 (by simp)
    have hr2 := hc2.heap H1'.out.2.2 (by simp)
    clear x0 x1
    obtain ⟨x0, x1⟩ := cells2 hb2
    have hlt2 := lt_of_block hb2
    have hltr := lt_of_block hr2
    have hE : (w2.alloc (.cells #[] 43)).ownsRow w2.heap.size 43 2 (.slice (some ⟨w2.heap.size, 0, none⟩) 0 0) 0 [] := ⟨rfl, .inr ⟨w2.heap.size, 0, _, rfl, Nat.le_refl _, heap_alloc_same _ _, Nat.le_refl _, by decide, rfl, rfl⟩⟩
    have hru := H.out.1.rules.keep hc20.kp
    have hnone : a1 = none → n1 = 0 := fun h => by rw [H.out.1.e1]; subst h; rw [rules_none hru]; rfl
    have hsome : ∀ b, a1 = some b → ∀ j u, (rulesCells g.rules)[j]? = some u → (w2.alloc (.cells #[] 43)).cell? (b.add j) = some u := fun b h j u hu => by
      subst h; exact (((Chg.refl [] w2).alloc (.cells #[] 43)).kp).2 _ _ (rules_some hru j u hu)
    have HA := Lib.hid (And.intro hE (And.intro (show (rulesCells g.rules).length = n1 * 2 by rw [rulesCells_len, H.out.1.e1]) (And.intro hnone (And.intro hsome (And.intro (rules_one g.rules) (show 0 + n1 ≤ maxLen ∧ (0 + n1) * 24 ≤ 140737488355328 by simp only [maxLen]; omega))))))
    have HB := Lib.hid (And.intro hc20 (And.intro hb2 (And.intro hr2 (And.intro hf2 hal))))
    clear hE hru hnone hsome hc20 hb2 hr2 hf2 hal hc2
    go_wp2_with (at_builtin; refine wpList_append_two rfl _ _ 22 rfl w2.heap.size 43 k0 _ 2 24 Tryz.underlying22 hk0 hx0 hx1 hx2 rfl (by decide) (.slice (some ⟨w2.heap.size, 0, none⟩) 0 0) 0 [] rfl HA.out.1 a1 n1 c1 (rulesCells g.rules) rfl HA.out.2.1 HA.out.2.2.1 HA.out.2.2.2.1 HA.out.2.2.2.2.1 HA.out.2.2.2.2.2.1 HA.out.2.2.2.2.2.2 (by simp) ?_; intro v' w5 hr5 hg5 hor5; rw [Nat.zero_add, List.nil_append] at hr5; obtain ⟨b1, d1, rfl⟩ := ownsRow_slice hr5; have HX := Lib.hid (And.intro hr5 hg5); clear hr5 hg5 hor5)
    have hc5 : Chg [] w2 w5 := ((Chg.refl [] w2).alloc (.cells #[] 43)).grown HX.out.2 (fun k hk => .inr (by simp [Value.ownBlock] at hk; omega))
    have hcO := hc5.alloc (.cells #[.slice b1 n1 d1, .slice none 0 0] 25)
    have hO := heap_alloc_same w5 (.cells #[.slice b1 n1 d1, .slice none 0 0] 25)
    have hOwn : OwnG w2.heap.size (w5.alloc (.cells #[.slice b1 n1 d1, .slice none 0 0] 25)) b1 d1 none 0 [] g.rules := by
      refine ⟨?_, World.ownsRow_nil _ _ _ _, (fun p hp => by cases hp), List.Pairwise.nil⟩
      have h1 := ((Chg.refl [] w5).alloc (.cells #[.slice b1 n1 d1, .slice none 0 0] 25)).row HX.out.1 (fun _ _ => by simp)
      unfold FreshRules
      rw [← H.out.1.e1]
      exact h1
    obtain ⟨O, eO⟩ : ∃ O, O = w5.heap.size := ⟨_, rfl⟩
    have hOB : w2.heap.size ≤ O := by rw [eO]; exact hc5.size
    rw [← eO] at hO ⊢
    have HZ := Lib.hid (And.intro hO (And.intro hOwn hcO))
    clear hO hOwn hcO eO HX HA hc5 x0 x1 hlt2
    go_loopg [6] n2 (fun dd iv wr => ∃ i : Nat, dd = n2 - i ∧ i ≤ n2 ∧ iv = .int .i64 i ∧ Hid (∃ b d L, wr.heap[O]? = some (.cells #[.slice b1 n1 d1, .slice b i d] 25 (0, 0)) ∧ L.map (·.1) = g.nodes.take i ∧ OwnG w2.heap.size wr b1 d1 b d L g.rules ∧ Chg [] w2 wr))
    case atStart => exact ⟨0, rfl, Nat.zero_le _, rfl, Lib.hid ⟨none, 0, [], HZ.out.1, rfl, HZ.out.2.1, HZ.out.2.2⟩⟩
    case round =>
      obtain ⟨i, rfl, hi, rfl, hin⟩ := hrel
      obtain ⟨wq, rfl⟩ : ∃ wq, wq = wr := ⟨_, rfl⟩
      obtain ⟨b, d, L, hO, hL, hown, hcw⟩ := hin.out
      have hbx := hcw.heap HB.out.2.1 (by simp)
      obtain ⟨x0, x1⟩ := cells2 hbx
      have hltx := lt_of_block hbx
      by_cases hil : i < n2
      · have hig : i < g.nodes.length := by have := H.out.1.e2; omega
        have hLl : L.length = i := by have h1 := congrArg List.length hL; rw [List.length_map, List.length_take] at h1; omega
        obtain ⟨y0, y1⟩ := cells2 hO
        have hOl := lt_of_block hO
        obtain ⟨x, hx⟩ : ∃ x, x = g.nodes[i] := ⟨_, rfl⟩
        obtain ⟨bn, on, ak, nk, ck, rfl, hxa⟩ := (H.out.1.keep (HB.out.1.tr hcw).kp).nodes i hig
        rw [← hx] at hxa
        obtain ⟨p0, p1, p2, p3, p4, p5, p6, p7, p8, hnk, hle, hcap, hik⟩ := hxa
        have hkl : x.kids.length ≤ 1000000 := H.out.2.1 x (by rw [hx]; exact List.getElem_mem hig)
        have hbk := World.block_lt_of_cell? _ _ p0
        simp only at hbk
        have hsz := hcw.size
        have hcc : c2 ≤ 9223372036854775807 := by have := H.out.1.cap2; simp only [maxLen] at this; exact this
        have hn2c := H.out.1.le2
        obtain ⟨xk, xc0, xc1, xc2, xc3, xs, xr, xl, xkids⟩ := x
        simp only at p0 p1 p2 p3 p4 p5 p6 p7 hkl hnk hik
        have hcE := (((Chg.refl [] wq).alloc (.cells #[.int .i64 xk, .int .u64 xc0, .int .u64 xc1, .int .u64 xc2, .int .u64 xc3, .string xs, .int .i64 xr, .int .i64 xl, .slice ak nk ck] 53)).alloc (.cells #[] 3))
        have hXE := heap_alloc_lt (heap_alloc_same wq (.cells #[.int .i64 xk, .int .u64 xc0, .int .u64 xc1, .int .u64 xc2, .int .u64 xc3, .string xs, .int .i64 xr, .int .i64 xl, .slice ak nk ck] 53)) (.cells #[] 3)
        have hEr : ((wq.alloc (.cells #[.int .i64 xk, .int .u64 xc0, .int .u64 xc1, .int .u64 xc2, .int .u64 xc3, .string xs, .int .i64 xr, .int .i64 xl, .slice ak nk ck] 53)).alloc (.cells #[] 3)).ownsRow wq.heap.size 3 1 (.slice (some ⟨wq.heap.size + 1, 0, none⟩) 0 0) 0 [] := ⟨rfl, .inr ⟨wq.heap.size + 1, 0, #[], rfl, by omega, by have := heap_alloc_same (wq.alloc (.cells #[.int .i64 xk, .int .u64 xc0, .int .u64 xc1, .int .u64 xc2, .int .u64 xc3, .string xs, .int .i64 xr, .int .i64 xl, .slice ak nk ck] 53)) (.cells #[] 3); rw [World.size_alloc] at this; exact this, Nat.le_refl _, by decide, rfl, rfl⟩⟩
        have hnone : ak = none → nk = 0 := fun h => by rw [hnk]; subst h; rw [ints_none hik]; rfl
        have hsome : ∀ b, ak = some b → ∀ j u, (xkids.map (Value.int .i64))[j]? = some u → ((wq.alloc (.cells #[.int .i64 xk, .int .u64 xc0, .int .u64 xc1, .int .u64 xc2, .int .u64 xc3, .string xs, .int .i64 xr, .int .i64 xl, .slice ak nk ck] 53)).alloc (.cells #[] 3)).cell? (b.add j) = some u := fun b h j u hu => by
          subst h; exact hcE.kp.2 _ _ (ints_some hik j u hu)
        have h1' : ∀ u ∈ xkids.map (Value.int .i64), u.oneCell' = true := fun u hu => by
          obtain ⟨z, _, rfl⟩ := List.mem_map.1 hu
          rfl
        have HK := Lib.hid (And.intro hEr (And.intro (show (xkids.map (Value.int .i64)).length = nk * 1 by simp [hnk]) (And.intro hnone (And.intro hsome (And.intro h1' (show 0 + nk ≤ maxLen ∧ (0 + nk) * 8 ≤ 140737488355328 by simp only [maxLen]; omega))))))
        have HP := Lib.hid (And.intro hcE hXE)
        have HQ := Lib.hid (And.intro hO (And.intro hown (And.intro hsz (And.intro hLl (And.intro hL (And.intro hx (And.intro hnk hcw)))))))
        clear hik hO hown hL hx hcw hin hbx hle hcap hcE hXE hEr hnone hsome h1' hsz hLl hnk
        go_wp2_with (first | (at_builtin; refine wpList_append_two rfl _ _ 48 rfl wq.heap.size 3 i0 _ 1 8 Tryz.underlying48 hi0 hz0 hz1 hz2 rfl (by decide) (.slice (some ⟨wq.heap.size + 1, 0, none⟩) 0 0) 0 [] rfl HK.out.1 ak nk ck (xkids.map (Value.int .i64)) rfl HK.out.2.1 HK.out.2.2.1 HK.out.2.2.2.1 HK.out.2.2.2.2.1 HK.out.2.2.2.2.2.1 HK.out.2.2.2.2.2.2 (by simp only [World.size_alloc]; omega) ?_; intro v' w6 hr6 hg6 hor6; rw [Nat.zero_add, List.nil_append] at hr6; obtain ⟨a6, c6, rfl⟩ := ownsRow_slice hr6; have hX6 := grown_heap hg6 HP.out.2 (by simp [Value.ownBlock]); have z8 : w6.cell? ⟨wq.heap.size, 8, none⟩ = some (.slice ak nk ck) := cell_of_cells hX6 8; have f8 := free_of_cells hX6 8; obtain ⟨z0, z1, z2, z3, z4, z5, z6, z7, -⟩ := cells9 hX6; have hc6 : Chg [] wq w6 := HP.out.1.grown hg6 (fun k hk => .inr (by simp [Value.ownBlock] at hk; omega)); have hl6 := lt_of_block hX6; have u1 : w6.cell? ⟨O, 1, none⟩ = some (.slice b i d) := hc6.cell y1 (by simp); have hMK := mend_kid hc6 hr6 HQ.out.2.1 HQ.out.1 HQ.out.2.2.1 HQ.out.2.2.2.1 (xk := xk) (xc0 := xc0) (xc1 := xc1) (xc2 := xc2) (xc3 := xc3) (xs := xs) (xr := xr) (xl := xl) hX6; have hll6 := hc6.size; have HM := Lib.hid hMK; clear hr6 hg6 hor6 hX6 hc6 hMK) | (at_builtin; refine wpList_append_own_at _ rfl _ _ 23 rfl w2.heap.size 53 j0 _ 9 96 Tryz.underlying23 hj0 hy0 hy1 hy2 rfl (by decide) (.slice b i d) i (nodesCells L) rfl HM.out.1 ⟨w6.heap.size, 0, none⟩ 1 1 [.int .i64 xk, .int .u64 xc0, .int .u64 xc1, .int .u64 xc2, .int .u64 xc3, .string xs, .int .i64 xr, .int .i64 xl, .slice a6 nk c6] rfl rfl HM.out.2.1 HM.out.2.2.1 (by simp only [maxLen]; omega) (by omega) HM.out.2.2.2.1 ?_; intro v9 w9 hr9 hg9 hn9 hb9; obtain ⟨a9, c9, rfl⟩ := ownsRow_slice hr9; have hO9 := grown_heap hg9 HM.out.2.2.2.2.1 (ownsRow_ne HM.out.1 HM.out.2.2.2.2.1 (by decide)); have u9 : w9.cell? ⟨O, 1, none⟩ = some (.slice b i d) := cell_of_cells hO9 1; have f9 := free_of_cells hO9 1; have HW := Lib.hid (And.intro hr9 (And.intro hg9 hO9)); clear hr9 hg9 hn9 hb9 hO9))
        obtain ⟨hO, hown, hsz, hLl, hL, hx, hnk, hcw⟩ := HQ.out
        have hcS := (Chg.refl [O] w9).setCell (p := ⟨O, 1, none⟩) (.inl (by simp)) (.slice a9 (i + 1) c9)
        have hset := heap_setCell_same HW.out.2.2 1 (.slice a9 (i + 1) c9)
        have hnO : ∀ e', 25 ≠ e' → ∀ x ∈ [O], NotRow w9 e' x := fun e' he y hy => by simp only [List.mem_singleton] at hy; subst hy; exact .of_cells HW.out.2.2 he
        have hk8 := HM.out.2.2.2.2.2.2.1
        have hsn : OwnG w2.heap.size w9 b1 d1 a9 c9 (L ++ [(⟨xk, xc0, xc1, xc2, xc3, xs, xr, xl, xkids⟩, a6, c6)]) g.rules := by
          refine HM.out.2.2.2.2.2.1.snocM (B' := wq.heap.size) ?_ hsz (fun p hp j hj => (row_beyond (hown.kids p hp) hj).2.1) ?_ ?_
          · unfold FreshInts
            rw [← hnk]
            exact hk8
          · rw [hLl]
            have h9 := HW.out.1
            simp only [Cp.cells, Nd.cells]
            rw [← hnk]
            exact h9
          · rw [hLl]
            exact HW.out.2.1
        have hc8 := HM.out.2.2.2.2.2.2.2
        have hfin : Hid (∃ b d L, (w9.setCell ⟨O, 1, none⟩ (.slice a9 (i + 1) c9)).heap[O]? = some (.cells #[.slice b1 n1 d1, .slice b (i + 1) d] 25 (0, 0)) ∧ L.map (·.1) = g.nodes.take (i + 1) ∧ OwnG w2.heap.size (w9.setCell ⟨O, 1, none⟩ (.slice a9 (i + 1) c9)) b1 d1 b d L g.rules ∧ Chg [] w2 (w9.setCell ⟨O, 1, none⟩ (.slice a9 (i + 1) c9))) := by
          refine Lib.hid ⟨a9, c9, _, by simpa using hset, ?_, hsn.chg hcS (fun k hk => ⟨hnO _ (by decide) k hk, hnO _ (by decide) k hk, hnO _ (by decide) k hk⟩), ?_⟩
          · rw [List.take_succ_eq_append_getElem hig, List.map_append, hL, ← hx]; rfl
          · exact ((hcw.tr hc8).grown HW.out.2.1 (fun k hk => .inr (row_beyond HM.out.1 hk).1)).setCell (p := ⟨O, 1, none⟩) (.inr hOB) _
        clear hO hown hsz hLl hL hx hnk hcw hcS hset hnO hk8 hsn hc8
        go_roundg (n2 - (i + 1))
        case measure => omega
        case rel => exact ⟨i + 1, rfl, by omega, by go_num, hfin⟩
      · obtain rfl : i = n2 := by omega
        have hM0 : L.map (·.1) = mendL g.nodes ((idleL g).take 0) := by rw [hL, List.take_zero, mendL_nil, List.take_of_length_le (by have := H.out.1.e2; omega)]
        have HV := Lib.hid (And.intro hO (And.intro hM0 (And.intro hown hcw)))
        clear hO hL hM0 hown hcw hin hbx hltx
        go_wp2_with fail
        clear x0 x1
        go_loopg [8] al (fun dd qv wr => ∃ q : Nat, dd = al - q ∧ q ≤ al ∧ qv = .int .i64 q ∧ Hid (wr.heap[O]? = some (.cells #[.slice b1 n1 d1, .slice b i d] 25 (0, 0)) ∧ ∃ M : List Cp, M.map (·.1) = mendL g.nodes ((idleL g).take q) ∧ OwnG w2.heap.size wr b1 d1 b d M g.rules ∧ Chg [] w2 wr))
        case atStart => exact ⟨0, rfl, Nat.zero_le _, rfl, Lib.hid ⟨HV.out.1, L, HV.out.2.1, HV.out.2.2.1, HV.out.2.2.2⟩⟩
        case round =>
          obtain ⟨q, rfl, hq, rfl, hin⟩ := hrel
          obtain ⟨wz, rfl⟩ : ∃ wz, wz = wr := ⟨_, rfl⟩
          obtain ⟨hO, M, hM, hown, hcw⟩ := hin.out
          by_cases hql : q < al
          · obtain ⟨m, hm1, hm2, hm3⟩ := idle_get (g := g) (q := q) (by have := HB.out.2.2.2.2; omega)
            have hMl : M.length = g.nodes.length := by have h1 := congrArg List.length hM; rwa [List.length_map, mendL_len] at h1
            have hmM : m < M.length := by omega
            have hf := hcw.row HB.out.2.2.2.1 (fun _ _ => by simp)
            obtain ⟨K, rfl, hKl, hra⟩ : ∃ K, ra = some ⟨K, 0, none⟩ ∧ al ≤ rc ∧ rc ≤ 9223372036854775807 := by
              rcases hf.2 with ⟨h0, h1⟩ | ⟨K, cap, cur, h0, _, _, h2, h3, _⟩
              · have := hf.1; rw [h1] at this; simp at this; omega
              · cases h0; exact ⟨K, rfl, h2, by simp only [maxLen] at h3; exact h3⟩
            have hkc := (row_put hf (i := q) (by omega)).1
            rw [List.getElem?_map, List.getElem?_eq_getElem (by have := HB.out.2.2.2.2; omega), hm1] at hkc
            simp only [Option.map_some] at hkc
            obtain ⟨G, rfl, hbd, hbd2⟩ : ∃ G, b = some ⟨G, 0, none⟩ ∧ i ≤ d ∧ d ≤ 9223372036854775807 := by
              rcases hown.nodes.2 with ⟨h0, h1⟩ | ⟨G, cap, cur, h0, _, _, h2, h3, _⟩
              · omega
              · cases h0; exact ⟨G, rfl, by have := H.out.1.e2; omega, by simp only [maxLen] at h3; exact h3⟩
            obtain ⟨hGB, kc, kf, ⟨cur, hcur⟩, kput⟩ := hown.kindPut hmM rfl
            obtain ⟨kv, hkv⟩ : ∃ v, wz.cell? ⟨G, m * 9, none⟩ = some v := ⟨_, kc⟩
            clear kc
            have hmi : m < i := by have := H.out.1.e2; omega
            have hlG := lt_of_block hcur
            have hGO : G ≠ O := by intro e; rw [e, hO] at hcur; simp at hcur
            have hqe : (M[m]).1 = (mendL g.nodes ((idleL g).take q))[m]'(by rw [mendL_len]; exact hm2) := by
              have : (M.map (·.1))[m]? = (mendL g.nodes ((idleL g).take q))[m]? := by rw [hM]
              rw [List.getElem?_map, List.getElem?_eq_getElem hmM, List.getElem?_eq_getElem (by rw [mendL_len]; exact hm2)] at this
              exact Option.some.inj this
            have hnew : (M.set m ((M[m]).setK 10)).map (·.1) = mendL g.nodes ((idleL g).take (q + 1)) := by
              rw [List.map_set, hM]
              show (mendL g.nodes ((idleL g).take q)).set m ((M[m]).1.setK 10) = _
              rw [hqe, hm3]
              exact mendL_snoc hm2
            obtain ⟨y0, y1⟩ := cells2 hO
            have HP := Lib.hid (And.intro (kput 10) (And.intro hnew (And.intro hcw (And.intro hO (And.intro hGO hGB)))))
            clear hm1 hm2 hm3 hMl hf hM hown hcw hO kput hcur hqe hnew hin hGB hGO
            go_wp2_with fail
            go_region
            all_goals go_wp2_with fail
            all_goals go_roundg (al - (q + 1))
            all_goals first
              | omega
              | exact ⟨q + 1, rfl, by omega, by go_num, Lib.hid ⟨(((Chg.refl [G] wz).drewN _).setCell (p := ⟨G, m * 9, none⟩) (.inl (by simp)) _).heap HP.out.2.2.2.1 (by simpa using fun h => HP.out.2.2.2.2.1 h.symm), _, HP.out.2.1, HP.out.1.chg0 ((Chg.refl _ _).drewN _), (HP.out.2.2.1.drewN _).setCell (p := ⟨G, m * 9, none⟩) (.inr HP.out.2.2.2.2.2) _⟩⟩
          · obtain rfl : q = al := by omega
            rw [List.take_of_length_le (by have := HB.out.2.2.2.2; omega)] at hM
            have hres := hcw.heap HB.out.2.2.1 (by simp)
            obtain ⟨y0, y1⟩ := cells2 hO
            obtain ⟨z0, z1⟩ := cells2 hres
            have f0 := free_of_cells hres 0
            have f1 := free_of_cells hres 1
            have HP := Lib.hid (And.intro hM (And.intro hown (And.intro hcw hres)))
            clear hM hown hcw hres hO hin
            go_wp2_with fail
            obtain ⟨hM, hown, hcw, hres⟩ := HP.out
            obtain ⟨w6, e6, z, hcs⟩ := two_setW (.slice b1 n1 d1) (.slice b i d) hres
            rw [← e6]
            obtain ⟨q0, q1⟩ := cells2 z
            have hwf : Gr.Wf ⟨g.rules, M.map (·.1)⟩ := by rw [hM]; exact mendG_wf H.out.1.wf
            have hown6 := hown.chg hcs (fun k hk => by simp only [List.mem_singleton] at hk; subst hk; exact ⟨.of_cells hres (by decide), .of_cells hres (by decide), .of_cells hres (by decide)⟩)
            have hgr := hown6.gram hwf
            have hMl : M.length = g.nodes.length := by have h1 := congrArg List.length hM; rwa [List.length_map, mendL_len] at h1
            rw [hMl, ← H.out.1.e1, ← H.out.1.e2, hM] at hgr
            refine bodyPost_ret (v := .tuple #[.agg #[.slice b1 n1 d1, .slice b i d], .bool true]) (by simp [results, Tryz.results77, go_sem, q0, q1, lt_of_block z]) rfl ?_
            exact ⟨⟨_, _, _, _, _, _, rfl, hgr⟩, (HB.out.1.tr hcw).trans hcs (fun k hk => .inr (by simp at hk; omega))⟩
end Go.Proofs.YtibgfgfmljhimaaGreat

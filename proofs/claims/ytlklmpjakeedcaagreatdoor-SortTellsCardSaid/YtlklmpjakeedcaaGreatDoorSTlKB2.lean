/-
  The kit: bodies of a grammar: a leaf, a word, a call, a node over others.
  Conditions: bodies read as data; they are small.
-/
import Derived.Test.YtlklmpjakeedcaaGreatDoorSTlKB1
set_option linter.unusedVariables false
set_option linter.unusedSimpArgs false
namespace Go.Proofs.YtlklmpjakeedcaaGreatDoor
open Go.RowKit Go.MapKept Go.Shelf

/-- A body that is told. -/
def Body (w : World) (ns : List Nd) (e : Ending) (w' : World) : Prop := ∃ a c, e = .returned (.slice a ns.length c) ∧ Nodes w' a ns ∧ ns.length ≤ c ∧ c ≤ maxLen ∧ Chg [] w w'
theorem NewRows.body {w : World} {ns : List Nd} {e : Ending} {w' : World} (h : NewRows w ns e w') : Body w ns e w' := by
  obtain ⟨a, c, L, h1, h2, h3, h4⟩ := h
  obtain ⟨q1, q2, q3⟩ := h3.read
  rw [h2] at q1
  have hl : L.length = ns.length := by rw [← h2]; simp
  rw [hl] at q2
  exact ⟨a, c, h1, q1, q2, q3, h4⟩
theorem one_node {w : World} {b : Nat} {x : Nd} (hx : x.kids = []) (h : w.heap[b]? = some (.cells (x.cells none 0 0) 65 (0, 0))) : Nodes w (some ⟨b, 0, none⟩) [x] := by
  intro i hi
  have hi0 : i = 0 := by simpa using hi
  subst hi0
  unfold Nd.cells at h
  obtain ⟨x0, x1, x2, x3, x4, x5, x6, x7, x8⟩ := cells9 h
  exact ⟨b, 0, none, 0, 0, rfl, by
    simp only [List.getElem_cons_zero]
    exact ⟨x0, x1, x2, x3, x4, x5, x6, x7, x8, by simp [hx], Nat.le_refl _, Nat.zero_le _, by rw [hx]; exact Ints.nil _ _⟩⟩
def wordN (s : ByteArray) : Nd := { bareN 4 with s := s }
def callN (r l : Int) : Nd := { bareN 5 with r := r, l := l }

set_option maxRecDepth 100000 in
set_option maxHeartbeats 1000000 in
theorem Word_any (w : World) (s : ByteArray) : Calls Tryz.prog 20 #[.string s] w (Body w [wordN s]) := by
  go_enter Tryz.func20, Tryz.ntmps20
  go_wp2_with fail
  go_ret
  exact ⟨some ⟨w.heap.size, 0, none⟩, 1, rfl, one_node rfl (heap_alloc_same w _), Nat.le_refl _, by decide, (Chg.refl _ _).alloc _⟩
set_option maxRecDepth 100000 in
set_option maxHeartbeats 1000000 in
theorem CallB_any (w : World) (r l : Int) : Calls Tryz.prog 22 #[.int .i64 r, .int .i64 l] w (Body w [callN r l]) := by
  go_enter Tryz.func22, Tryz.ntmps22
  go_wp2_with fail
  go_ret
  exact ⟨some ⟨w.heap.size, 0, none⟩, 1, rfl, one_node rfl (heap_alloc_same w _), Nat.le_refl _, by decide, (Chg.refl _ _).alloc _⟩

/-- Bodies in a list. -/
def Bodies (w : World) (a : Option Addr) (KL : List (List Nd)) : Prop :=
  ∀ i (h : i < KL.length), ∃ b o ak ck, a = some ⟨b, o, none⟩ ∧ w.cell? ⟨b, o + i, none⟩ = some (.slice ak KL[i].length ck) ∧ Nodes w ak KL[i]
theorem Bodies.keep {w w' : World} {a : Option Addr} {KL : List (List Nd)} (h : Bodies w a KL) (k : Kp w w') : Bodies w' a KL := fun i hi => by
  obtain ⟨b, o, ak, ck, h1, h2, h3⟩ := h i hi
  exact ⟨b, o, ak, ck, h1, k.2 _ _ h2, h3.keep k⟩
def sumL (KL : List (List Nd)) : Nat := (KL.map List.length).sum
theorem gramN_snoc : ∀ (A : List (List Nd)) (b : List Nd) (o : Nat), gramN (A ++ [b]) o = gramN A o ++ movedL b (o + sumL A : Nat) := by
  intro A
  induction A with
  | nil => intro b o; simp [gramN, sumL]
  | cons x A ih =>
    intro b o
    simp only [List.cons_append, gramN, ih, List.append_assoc, sumL, List.map_cons, List.sum_cons]
    rw [Nat.add_assoc]
theorem gramO_snoc : ∀ (A : List (List Nd)) (b : List Nd) (o : Nat), gramO (A ++ [b]) o = gramO A o ++ [((o + sumL A : Nat) : Int)] := by
  intro A
  induction A with
  | nil => intro b o; simp [gramO, sumL]
  | cons x A ih =>
    intro b o
    simp only [List.cons_append, gramO, ih, sumL, List.map_cons, List.sum_cons]
    rw [Nat.add_assoc]
theorem gramN_sum (A : List (List Nd)) (o : Nat) : (gramN A o).length = sumL A := gramN_len A o
theorem sumL_snoc (A : List (List Nd)) (b : List Nd) : sumL (A ++ [b]) = sumL A + b.length := by simp [sumL]
theorem sumL_take (KL : List (List Nd)) (i : Nat) : sumL (KL.take i) ≤ sumL KL := by
  have h : sumL (KL.take i ++ KL.drop i) = sumL (KL.take i) + sumL (KL.drop i) := by
    simp only [sumL, List.map_append, List.sum_append]
  rw [List.take_append_drop] at h
  omega
theorem sumL_next (KL : List (List Nd)) {i : Nat} (hi : i < KL.length) : sumL (KL.take (i + 1)) = sumL (KL.take i) + KL[i].length := by
  rw [List.take_succ_eq_append_getElem hi, sumL_snoc]
theorem cells_one (L : List Cp) : ∀ u ∈ nodesCells L, u.oneCell' = true := by
  intro u hu
  simp only [nodesCells, List.mem_flatMap] at hu
  obtain ⟨p, _, hp⟩ := hu
  simp only [Cp.cells, Nd.cells, List.mem_cons, List.not_mem_nil, or_false] at hp
  rcases hp with rfl | rfl | rfl | rfl | rfl | rfl | rfl | rfl | rfl <;> rfl
theorem nodesCells_len (L : List Cp) : (nodesCells L).length = L.length * 9 := flat_len Cp.cells 9 cp_len L
theorem OwnN.src {B : Nat} {w : World} {b2 : Option Addr} {d2 : Nat} {L : List Cp} (h : OwnN B w b2 d2 L) (hL : L ≠ []) :
    ∃ G, b2 = some ⟨G, 0, none⟩ ∧ B ≤ G ∧ ∀ j u, (nodesCells L)[j]? = some u → w.cell? ((⟨G, 0, none⟩ : Addr).add j) = some u := by
  rcases h.nodes.2 with ⟨h0, h1⟩ | ⟨g, cap, cur, h0, hb, hg, hn, hc, hs, ht⟩
  · exact absurd (List.eq_nil_of_length_eq_zero h1) hL
  · cases h0
    refine ⟨g, rfl, hb, fun j u hu => cells_at hg j u ?_⟩
    rw [← ht, List.getElem?_take] at hu
    split at hu
    · exact hu
    · cases hu
/-- A node of a kind over bodies. -/
def ofL (k : Int) (KL : List (List Nd)) : List Nd := { bareN k with kids := gramO KL 1 } :: gramN KL 1
theorem ofL_len (k : Int) (KL : List (List Nd)) : (ofL k KL).length = sumL KL + 1 := by simp [ofL, gramN_sum]
/-- Small: each kid's number, each body's length. -/
structure Small (ns : List Nd) : Prop where
  len : ns.length ≤ 3000
  one : ns ≠ []
  kids : ∀ x ∈ ns, x.kids.length ≤ 3000 ∧ ∀ z ∈ x.kids, -100000 ≤ z ∧ z ≤ 100000

theorem of_more {w wq w5 : World} {G d pk pd c5 : Nat} {pa a5 : Option Addr} {p : Cp} {L : List Cp} {v : Int} {o : Obj} (h2 : OwnN w.heap.size wq (some ⟨G, 0, none⟩) d (p :: L)) (h3 : Chg [] w wq) (hBG : w.heap.size ≤ G) (hpk : pk = p.1.kids.length) (hpa : pa = p.2.1) (hpd : pd = p.2.2)
    (hr5 : w5.ownsRow w.heap.size 3 1 (.slice a5 (pk + 1) c5) (pk + 1) (p.1.kids.map (Value.int .i64) ++ [.int .i64 v])) (hg5 : (wq.alloc o).grownBy w5 (Value.slice pa pk pd).ownBlock)
    (hb5 : (Value.slice a5 (pk + 1) c5).ownBlock = (Value.slice pa pk pd).ownBlock ∨ (Value.slice a5 (pk + 1) c5).ownBlock = some (wq.alloc o).heap.size) :
    OwnN w.heap.size (w5.setCell ⟨G, 8, none⟩ (.slice a5 (pk + 1) c5)) (some ⟨G, 0, none⟩) d ((p.1.addKid v, a5, c5) :: L) ∧ Chg [] w (w5.setCell ⟨G, 8, none⟩ (.slice a5 (pk + 1) c5)) := by
  subst hpk hpa hpd
  have hca := (Chg.refl [] wq).alloc o
  obtain ⟨q1, q2⟩ := (h2.chg0 hca).more (h3.tr hca).size rfl hr5 hg5 hb5
  refine ⟨q1, (h3.tr hca).trans q2 (fun j hj => .inr ?_)⟩
  simp only [List.mem_append, Option.mem_toList, List.mem_singleton] at hj
  rcases hj with hj | rfl
  · exact (row_beyond (h2.kids p (by simp)) hj).1
  · exact hBG

set_option maxRecDepth 100000 in
set_option maxHeartbeats 4000000 in
theorem Of_any (w : World) (k : Int) (a : Option Addr) (n c : Nat) (KL : List (List Nd)) (hn : n = KL.length) (hr : Bodies w a KL) (hs : ∀ b ∈ KL, Small b) (hsum : sumL KL ≤ 3000) (hn3 : n ≤ 3000) :
    Calls Tryz.prog 24 #[.int .i64 k, .slice a n c] w (NewRows w (ofL k KL)) := by
  obtain ⟨i0, hi0, hz0, hz1, hz2⟩ := info_parts Tryz.infoInt
  obtain ⟨j0, hj0, hy0, hy1, hy2⟩ := info_parts Tryz.infoNode
  have H := Lib.hid (And.intro hn (And.intro hr (And.intro hs hsum)))
  clear hn hr hs hsum
  go_enter Tryz.func24, Tryz.ntmps24
  go_wp2_with fail
  go_loopg [6, 5] n (fun dd iv ov wr => ∃ (i : Nat) (b : Option Addr) (d q : Nat), dd = n - i ∧ i ≤ n ∧ iv = .int .i64 i ∧ ov = .slice b (q + 1) d ∧ Hid (∃ L, L.map (·.1) = ofL k (KL.take i) ∧ OwnN w.heap.size wr b d L ∧ Chg [] w wr ∧ q = sumL (KL.take i)))
  case atStart =>
    refine ⟨0, some ⟨w.heap.size, 0, none⟩, 1, 0, rfl, Nat.zero_le _, rfl, rfl, Lib.hid ⟨[(bareN k, none, 0)], rfl, ⟨?_, ?_, List.pairwise_singleton _ _⟩, (Chg.refl _ _).alloc _, rfl⟩⟩
    · exact ⟨rfl, .inr ⟨w.heap.size, 1, _, rfl, Nat.le_refl _, heap_alloc_same _ _, Nat.le_refl _, by decide, rfl, rfl⟩⟩
    · intro p hp
      simp only [List.mem_singleton] at hp
      subst hp
      exact World.ownsRow_nil _ _ _ _
  case round =>
    obtain ⟨i, b, d, q, rfl, hi, rfl, rfl, hin⟩ := hrel
    obtain ⟨wq, rfl⟩ : ∃ wq, wq = wr := ⟨_, rfl⟩
    by_cases hlt : i < n
    · obtain ⟨L0, h1, h2, h3, h4⟩ := hin.out
      have hiK : i < KL.length := by have := H.out.1; omega
      cases L0 with
      | nil => cases h1
      | cons p L =>
      have hp1 : p.1 = { bareN k with kids := gramO (KL.take i) 1 } := by simp only [List.map_cons, ofL] at h1; injection h1
      have hL1 : L.map (·.1) = gramN (KL.take i) 1 := by simp only [List.map_cons, ofL] at h1; injection h1
      have hLq : L.length = q := by rw [h4, ← gramN_sum (KL.take i) 1, ← hL1]; simp
      obtain ⟨G, rfl, hBG, ⟨cur, hcur⟩, hcells, hfr⟩ := h2.at (i := 0) (by simp)
      obtain ⟨pk, hpk⟩ : ∃ pk, pk = p.1.kids.length := ⟨_, rfl⟩
      obtain ⟨pa, hpa⟩ : ∃ pa, pa = p.2.1 := ⟨_, rfl⟩
      obtain ⟨pd, hpd⟩ : ∃ pd, pd = p.2.2 := ⟨_, rfl⟩
      have h8 : wq.cell? ⟨G, 8, none⟩ = some (.slice pa pk pd) := by
        have := hcells 8 (by decide)
        rw [Nat.zero_mul, Nat.zero_add] at this
        rw [this, hpa, hpk, hpd]; rfl
      have hGl := lt_of_block hcur
      have hpk3 : pk ≤ 3000 := by
        rw [hpk, hp1]
        show (gramO (KL.take i) 1).length ≤ 3000
        rw [gramO_len, List.length_take]; omega
      have hq3 : q ≤ 3000 := by have := sumL_take KL i; have := H.out.2.2.2; omega
      have hca := (Chg.refl [] wq).alloc (.cells #[.int .i64 ((q : Int) + 1)] 3)
      have hrow : (wq.alloc (.cells #[.int .i64 ((q : Int) + 1)] 3)).ownsRow w.heap.size 3 1 (.slice pa pk pd) pk (p.1.kids.map (Value.int .i64)) := by
        rw [hpa, hpk, hpd]
        exact World.ownsRow.alloc (h2.kids p (by simp)) _
      have hnew := cells_at (w := wq.alloc (.cells #[.int .i64 ((q : Int) + 1)] 3)) (heap_alloc_same _ _)
      have h1' : ∀ u ∈ [Value.int .i64 ((q : Int) + 1)], u.oneCell' = true := by simp [Value.oneCell']
      have h2' : pk + 1 ≤ maxLen ∧ (pk + 1) * 8 ≤ 140737488355328 := by simp only [maxLen]; omega
      have hb' : w.heap.size ≤ (wq.alloc (.cells #[.int .i64 ((q : Int) + 1)] 3)).heap.size := (h3.tr hca).size
      have HA := Lib.hid (And.intro hrow (And.intro hnew (And.intro h1' (And.intro h2' hb'))))
      have HB := Lib.hid (And.intro hp1 (And.intro hL1 (And.intro hLq (And.intro h2 (And.intro h3 (And.intro h4 (And.intro hcur (And.intro hpk (And.intro hpa (And.intro hpd (And.intro hca hBG)))))))))))
      obtain ⟨ba, oa, ak, ck, rfl, hkc, hkn⟩ := H.out.2.1 i hiK
      obtain ⟨ml, hml⟩ : ∃ ml, ml = KL[i].length := ⟨_, rfl⟩
      rw [← hml] at hkc
      have hsmall := H.out.2.2.1 _ (List.getElem_mem hiK)
      obtain ⟨bd, hbd⟩ : ∃ bd, bd = KL[i] := ⟨_, rfl⟩
      rw [← hbd] at hml hkn hsmall
      have hbd2 : KL[i]? = some bd := by rw [hbd]; exact List.getElem?_eq_getElem hiK
      have HK := Lib.hid (And.intro hbd2 (And.intro hml (And.intro hkn hsmall)))
      have HC := Lib.hid hkc
      clear h1 h2 h3 h4 hp1 hL1 hLq hcells hrow hnew h1' h2' hb' hcur hpk hpa hpd hca hiK hBG hml hkn hsmall hkc hbd hbd2
      go_wp2_with (at_builtin; refine wpList_append_own_at _ rfl _ _ 34 rfl w.heap.size 3 i0 _ 1 8 Tryz.underlying34 hi0 hz0 hz1 hz2 rfl (by decide) (.slice pa pk pd) pk (p.1.kids.map (Value.int .i64)) rfl HA.out.1 ⟨wq.heap.size, 0, none⟩ 1 1 [.int .i64 ((q : Int) + 1)] rfl rfl HA.out.2.1 HA.out.2.2.1 HA.out.2.2.2.1.1 HA.out.2.2.2.1.2 HA.out.2.2.2.2 ?_; intro v' w5 hr5 hg5 hn5 hb5; obtain ⟨a5, c5, rfl⟩ := ownsRow_slice hr5; have hO5 := grown_heap hg5 (heap_alloc_lt HB.out.2.2.2.2.2.2.1 _) (ownsRow_ne HA.out.1 (heap_alloc_lt HB.out.2.2.2.2.2.2.1 _) (by decide)); obtain ⟨v8, hv8⟩ : ∃ v, w5.cell? ⟨G, 8, none⟩ = some v := (by have h9 := h8; rw [cell_of_cells HB.out.2.2.2.2.2.2.1] at h9; exact ⟨_, (cell_of_cells hO5 8).trans h9⟩); have f8 := free_of_cells hO5 8; have hm5 := of_more HB.out.2.2.2.1 HB.out.2.2.2.2.1 HB.out.2.2.2.2.2.2.2.2.2.2.2 HB.out.2.2.2.2.2.2.2.1 HB.out.2.2.2.2.2.2.2.2.1 HB.out.2.2.2.2.2.2.2.2.2.1 hr5 hg5 hb5; have hk5 := hm5.2.cell HC.out (by simp); have HW := Lib.hid hm5; clear hr5 hg5 hn5 hb5 hO5 hm5)
      clear hk5 hv8 f8 h8
      obtain ⟨hbd2, hml, hkn, hsmall⟩ := HK.out
      refine (moved_any _ ak ml ck bd ((q : Int) + 1) hml (by rw [hml]; exact hsmall.len) (hkn.keep HW.out.2.kp) (fun x hx => (hsmall.kids x hx).1) (fun x hx z hz => by have := (hsmall.kids x hx).2 z hz; constructor <;> omega)).mono ?_
      rintro e w7 ⟨rb, rd, M, rfl, hM, hown7, hc7⟩
      have hMl : M.length = ml := by
        have := congrArg List.length hM
        rw [List.length_map, movedL_len] at this
        omega
      obtain ⟨G2, rfl, hG2, hsrc⟩ := hown7.src (fun h => by subst h; have := hsmall.one; have := List.length_pos_iff.2 this; simp at hMl; omega)
      rw [movedL_len, ← hml]
      have hrow7 := (HW.out.1.chg0 hc7).nodes
      have hlen7 : ((p.1.addKid ((q : Int) + 1), a5, c5) :: L).length = q + 1 := by simp [HB.out.2.2.1]
      rw [hlen7] at hrow7
      have hl7 : (nodesCells M).length = ml * 9 := by rw [nodesCells_len, hMl]
      have h2' : q + 1 + ml ≤ maxLen ∧ (q + 1 + ml) * 96 ≤ 140737488355328 := by have := hsmall.len; simp only [maxLen]; omega
      have hb7 : w.heap.size ≤ w7.heap.size := (HW.out.2.tr hc7).size
      have H7 := Lib.hid (And.intro hrow7 (And.intro hsrc (And.intro hl7 (And.intro h2' (And.intro hb7 (And.intro hM (And.intro hown7 (And.intro hc7 hMl))))))))
      clear hbd2 hml hkn hsmall hM hown7 hc7 hMl hsrc hrow7 hlen7 hl7 h2' hb7 hG2
      go_wp2_with (at_builtin; refine wpList_append_own_at _ rfl _ _ 29 rfl w.heap.size 65 j0 _ 9 96 Tryz.underlying29 hj0 hy0 hy1 hy2 rfl (by decide) (.slice (some ⟨G, 0, none⟩) (q + 1) d) (q + 1) (nodesCells ((p.1.addKid ((q : Int) + 1), a5, c5) :: L)) rfl H7.out.1 ⟨G2, 0, none⟩ ml rd (nodesCells M) rfl H7.out.2.2.1 H7.out.2.1 (cells_one M) H7.out.2.2.2.1.1 H7.out.2.2.2.1.2 H7.out.2.2.2.2.1 ?_; intro v' w8 hr8 hg8 hn8 hb8; obtain ⟨a8, c8, rfl⟩ := ownsRow_slice hr8; have HX := Lib.hid (And.intro hr8 hg8); clear hr8 hg8 hn8 hb8)
      go_roundg (n - (i + 1))
      case measure => omega
      case rel =>
        obtain ⟨hbd2, hml, hkn, hsmall⟩ := HK.out
        obtain ⟨hiK, hbd3⟩ := List.getElem?_eq_some_iff.1 hbd2
        subst hbd3
        obtain ⟨hrow7, hsrc, hl7, h2', hb7, hM, hown7, hc7, hMl⟩ := H7.out
        obtain ⟨hp1, hL1, hLq, h2, h3, h4, hcur, hpk, hpa, hpd, hca, hBG⟩ := HB.out
        have hown8 := HW.out.1.chg0 hc7
        have hlen7 : ((p.1.addKid ((q : Int) + 1), a5, c5) :: L).length = q + 1 := by simp [hLq]
        have hj := hown8.join (M := M) (b2' := a8) (d2' := c8) (w1 := w8) (fun r hr => row_base (hown7.kids r hr) HW.out.2.size) hown7.apart
          (fun r hr s hs i j hi hj e => by
            have q1 := (row_beyond (HW.out.1.kids r hr) hi).2.1
            have q2 := (row_beyond (hown7.kids s hs) hj).1
            omega)
          (by rw [hlen7, hMl]; exact HX.out.1) (by rw [hlen7]; exact HX.out.2)
        have hq' : q + ml = sumL (KL.take (i + 1)) := by rw [sumL_next KL hiK, ← h4, ← hml]
        refine ⟨i + 1, a8, c8, q + ml, rfl, by omega, by go_num, by rw [show q + 1 + ml = q + ml + 1 by omega], Lib.hid ⟨_, ?_, hj, ?_, hq'⟩⟩
        · rw [List.map_append, List.map_cons, hM, hL1]
          simp only [ofL, List.take_succ_eq_append_getElem hiK, gramN_snoc, gramO_snoc, ← h4, List.cons_append]
          congr 1
          · simp only [Nd.addKid, hp1]
            congr 2
            rw [show ((1 + q : Nat) : Int) = (q : Int) + 1 by omega]
          · rw [show ((1 + q : Nat) : Int) = (q : Int) + 1 by omega]
        · refine (HW.out.2.tr hc7).grown HX.out.2 (fun j hj => .inr ?_)
          have := (HW.out.1.nodes)
          rw [hlen7] at this
          exact (row_beyond this hj).1
    · obtain rfl : i = n := by omega
      go_wp2_with fail
      go_ret
      obtain ⟨L, h1, h2, h3, h4⟩ := hin.out
      rw [H.out.1, List.take_length] at h1 h4
      refine ⟨b, d, L, ?_, h1, h2, h3⟩
      rw [ofL_len, ← h4]; rfl
end Go.Proofs.YtlklmpjakeedcaaGreatDoor

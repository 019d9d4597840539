/-
 The kit: the grammar of some bodies.
 Conditions: bodies read as data; they are small.
-/
import Derived.Test.YtlklmpjakeedcaaGreatDoorSEnKB2
import Derived.Test.YtlklmpjakeedcaaGreatDoorSEnGAny2
import Derived.Laws.IdiomStrings
set_option linter.unusedVariables false
set_option linter.unnecessarySimpa false
set_option linter.unusedSimpArgs false
namespace Go.Proofs.YtlklmpjakeedcaaGreatDoor
open Go.RowKit Go.MapKept Go.Shelf

theorem bodies_made {w : World} {vs : List (Option Addr × Nat)} {KL : List (List Nd)} {t : TypeId} (hl : vs.length = KL.length) (hb : ∀ i (h : i < KL.length), Nodes w (vs[i]'(by omega)).1 KL[i])
  {k : Nat} (hk : w.heap[k]? = some (.cells ((List.range KL.length).map fun i => Value.slice ((vs.getD i (none, 0)).1) ((KL.getD i []).length) ((vs.getD i (none, 0)).2)).toArray t (0, 0))) : Bodies w (some ⟨k, 0, none⟩) KL := by
 intro i hi
 have hi' : i < vs.length := by omega
 refine ⟨k, 0, vs[i].1, vs[i].2, rfl, ?_, hb i hi⟩
 rw [cell_of_cells hk]
 simp [hi, hi', List.getD]
set_option maxRecDepth 100000 in
set_option maxHeartbeats 1000000 in
theorem In_any (w : World) (k : Int) (a : Option Addr) (c : Nat) (b : List Nd) (hb : Nodes w a b) (hs : Small b) :
  Calls Tryz.prog 23 #[.int .i64 k, .slice a b.length c] w (NewRows w (ofL k [b])) := by
 have hk := bodies_made (w := w.alloc (.cells #[.slice a b.length c] 29)) (vs := [(a, c)]) (KL := [b]) rfl (by
  intro i h
  have hi : i = 0 := by simpa using h
  subst hi
  exact hb.keep ((Chg.refl [] w).alloc _).kp) (heap_alloc_same w _)
 have H := Lib.hid (And.intro hk hs)
 clear hk hb hs
 go_enter Tryz.func23, Tryz.ntmps23
 go_wp2_with fail
 refine (Of_any _ k _ 1 1 [b] rfl H.out.1 (by simpa using H.out.2) (by have := H.out.2.len; simp [sumL]; omega) (by decide)).mono ?_
 rintro e w2 ⟨a2, c2, L, rfl, h1, h2, h3⟩
 have H2 := Lib.hid (And.intro h1 (And.intro h2 h3))
 clear h1 h2 h3
 go_wp2_with fail
 go_ret
 obtain ⟨h1, h2, h3⟩ := H2.out
 exact ⟨a2, c2, L, rfl, h1, h2.below (by simp), ((Chg.refl [] w).alloc _).tr0 h3⟩

set_option maxRecDepth 100000 in
set_option maxHeartbeats 1000000 in
theorem Chain_any (w : World) (a : Option Addr) (c : Nat) (b : List Nd) (a' : Option Addr) (c' : Nat) (b' : List Nd) (hb : Nodes w a b) (hs : Small b) (hb' : Nodes w a' b') (hs' : Small b') (hl : b.length + b'.length ≤ 3000) :
  Calls Tryz.prog 21 #[.slice a b.length c, .slice a' b'.length c'] w (NewRows w (ofL 6 [b, b'])) := by
 have hk := bodies_made (w := w.alloc (.cells #[.slice a b.length c, .slice a' b'.length c'] 29)) (vs := [(a, c), (a', c')]) (KL := [b, b']) rfl (by
  intro i h
  have hi : i = 0 ∨ i = 1 := by simp at h; omega
  rcases hi with rfl | rfl
  ·exact hb.keep ((Chg.refl [] w).alloc _).kp
  ·exact hb'.keep ((Chg.refl [] w).alloc _).kp) (heap_alloc_same w _)
 have H := Lib.hid (And.intro hk (And.intro hs (And.intro hs' hl)))
 clear hk hb hs hb' hs' hl
 go_enter Tryz.func21, Tryz.ntmps21
 go_wp2_with fail
 refine (Of_any _ 6 _ 2 2 [b, b'] rfl H.out.1 (by simpa using ⟨H.out.2.1, H.out.2.2.1⟩) (by have := H.out.2.2.2; simp [sumL]; omega) (by decide)).mono ?_
 rintro e w2 ⟨a2, c2, L, rfl, h1, h2, h3⟩
 have H2 := Lib.hid (And.intro h1 (And.intro h2 h3))
 clear h1 h2 h3
 go_wp2_with fail
 go_ret
 obtain ⟨h1, h2, h3⟩ := H2.out
 exact ⟨a2, c2, L, rfl, h1, h2.below (by simp), ((Chg.refl [] w).alloc _).tr0 h3⟩

set_option maxRecDepth 100000 in
set_option maxHeartbeats 1000000 in
theorem First_any (w : World) (a : Option Addr) (c : Nat) (b : List Nd) (a' : Option Addr) (c' : Nat) (b' : List Nd) (hb : Nodes w a b) (hs : Small b) (hb' : Nodes w a' b') (hs' : Small b') (hl : b.length + b'.length ≤ 3000) :
  Calls Tryz.prog 56 #[.slice a b.length c, .slice a' b'.length c'] w (NewRows w (ofL 7 [b, b'])) := by
 have hk := bodies_made (w := w.alloc (.cells #[.slice a b.length c, .slice a' b'.length c'] 29)) (vs := [(a, c), (a', c')]) (KL := [b, b']) rfl (by
  intro i h
  have hi : i = 0 ∨ i = 1 := by simp at h; omega
  rcases hi with rfl | rfl
  ·exact hb.keep ((Chg.refl [] w).alloc _).kp
  ·exact hb'.keep ((Chg.refl [] w).alloc _).kp) (heap_alloc_same w _)
 have H := Lib.hid (And.intro hk (And.intro hs (And.intro hs' hl)))
 clear hk hb hs hb' hs' hl
 go_enter Tryz.func56, Tryz.ntmps56
 go_wp2_with fail
 refine (Of_any _ 7 _ 2 2 [b, b'] rfl H.out.1 (by simpa using ⟨H.out.2.1, H.out.2.2.1⟩) (by have := H.out.2.2.2; simp [sumL]; omega) (by decide)).mono ?_
 rintro e w2 ⟨a2, c2, L, rfl, h1, h2, h3⟩
 have H2 := Lib.hid (And.intro h1 (And.intro h2 h3))
 clear h1 h2 h3
 go_wp2_with fail
 go_ret
 obtain ⟨h1, h2, h3⟩ := H2.out
 exact ⟨a2, c2, L, rfl, h1, h2.below (by simp), ((Chg.refl [] w).alloc _).tr0 h3⟩

/-- An append as one operation of a region that draws its order. -/
theorem wpOper_append_own_at {P : Program} {w : World} {o : Oper} {a : Act} {K : Act → World → Prop} {Q : Exit → Act → World → Prop} (s x : Operand) (t : TypeId)
  (ho : o.op = .call { callee := .builtin .append, args := #[s, x], argTypes := #[t, t] })
  (base : Nat) (e : TypeId) (i : TypeInfo) (z : Value) (size bytes : Nat) (ht : P.underlying t = some (.slice e)) (hi : P.info? e = some i) (hz : i.zero = some z)
  (hsize : i.size = size) (hby : i.bytes = bytes) (hzs : z.cells.size = size) (hsz : 0 < size)
  (v : Value) (n : Nat) (xs : List Value) (hs : a.eval s = v) (hown : w.ownsRow base e size v n xs)
  (ad : Addr) (m c : Nat) (news : List Value) (hx : a.eval x = .slice (some ad) m c) (hl : news.length = m * size) (hnews : ∀ j u, news[j]? = some u → w.cell? (ad.add j) = some u) (h1 : ∀ u ∈ news, u.oneCell' = true)
  (h63 : n + m ≤ maxLen) (hbytes : (n + m) * bytes ≤ 140737488355328) (hbase : base ≤ w.heap.size)
  (h : ∀ v' w', w'.ownsRow base e size v' (n + m) (xs ++ news) → w.grownBy w' v.ownBlock → (v'.ownBlock = v.ownBlock ∨ v'.ownBlock = some w.heap.size) → K (a.put o.dst v') w') : o.wp P a w K Q := by
 obtain ⟨v', w', hr, h2, h3, h4, h5⟩ := run_append_own_at (P := P) w base t o.type e i z size bytes ht hi hz hsize hby hzs hsz v n xs hown ad m c news hl hnews h1 h63 hbytes hbase
 unfold Oper.wp execOp
 simp only [ho, resolve, invoke, builtin, Sem.run_bind, Sem.run_pure, Result.andThen_ok, List.map_toArray, List.map_cons, List.map_nil, hs, hx, hr]
 exact h v' w' h2 h3 h5

/-! ### The grammar -/
def gname (i : Nat) : ByteArray := ⟨#[UInt8.ofNat (65 + i)]⟩
def gramRs : List (List Nd) → Nat → Nat → List Rl
 | [], _, _ => []
 | b :: bs, i, o => ⟨gname i, o⟩ :: gramRs bs (i + 1) (o + b.length)
def gramL (KL : List (List Nd)) : Gr := ⟨gramRs KL 0 0, gramN KL 0⟩
theorem gramRs_snoc : ∀ (A : List (List Nd)) (b : List Nd) (i o : Nat), gramRs (A ++ [b]) i o = gramRs A i o ++ [⟨gname (i + A.length), ((o + sumL A : Nat) : Int)⟩] := by
 intro A
 induction A with
 | nil => intro b i o; simp [gramRs, sumL]
 | cons x A ih =>
  intro b i o
  simp only [List.cons_append, gramRs, ih, sumL, List.map_cons, List.sum_cons, List.length_cons]
  rw [show i + 1 + A.length = i + (A.length + 1) by omega, Nat.add_assoc o]
theorem gramRs_len : ∀ (A : List (List Nd)) (i o : Nat), (gramRs A i o).length = A.length := by
 intro A
 induction A with
 | nil => intro i o; rfl
 | cons x A ih => intro i o; simp [gramRs, ih]
/-- A grammar in rows of its own. -/
def NewGramRows (w : World) (g : Gr) (e : Ending) (w' : World) : Prop :=
 ∃ a1 c1 a2 c2 L, e = .returned (.agg #[.slice a1 g.rules.length c1, .slice a2 g.nodes.length c2]) ∧ L.map (·.1) = g.nodes ∧ FreshRules w.heap.size w' a1 c1 g.rules ∧ OwnN w.heap.size w' a2 c2 L ∧ Chg [] w w'
/-- The nodes' row while a body is put to it: not yet moved, moved, joined, laid. -/
structure GramP (n₀ : Nat) (w6 : World) (T : Nat) (v1 : Value) (a2 : Option Addr) (q d2 ml : Nat) (L : List Cp) (bd : List Nd) (p : Nat) (u34 u35 : Value) (W : World) : Prop where
 chg : Chg (T :: (Value.slice a2 q d2).ownBlock.toList) w6 W
 box : p < 3 → W.heap[T]? = some (.cells #[v1, .slice a2 q d2] 31 (0, 0))
 old : p < 2 → Chg [] w6 W
 mid : 1 ≤ p → p < 2 → ∃ G rd M, u34 = .slice (some ⟨G, 0, none⟩) ml rd ∧ M.map (·.1) = movedL bd q ∧ OwnN w6.heap.size W (some ⟨G, 0, none⟩) rd M ∧ (∀ j u, (nodesCells M)[j]? = some u → W.cell? ((⟨G, 0, none⟩ : Addr).add j) = some u)
 fin : 2 ≤ p → ∃ a8 d8 M, u35 = .slice a8 (q + ml) d8 ∧ M.map (·.1) = movedL bd q ∧ OwnN n₀ W a8 d8 (L ++ M) ∧ (3 ≤ p → W.heap[T]? = some (.cells #[v1, .slice a8 (q + ml) d8] 31 (0, 0)))

set_option maxRecDepth 100000 in
set_option maxHeartbeats 8000000 in
theorem Gram_any (w : World) (a : Option Addr) (n c : Nat) (KL : List (List Nd)) (hn : n = KL.length) (hr : Bodies w a KL) (hs : ∀ b ∈ KL, Small b) (hsum : sumL KL ≤ 3000) (hn3 : n ≤ 300) :
  Calls Tryz.prog 25 #[.slice a n c] w (NewGramRows w (gramL KL)) := by
 obtain ⟨i0, hi0, hz0, hz1, hz2⟩ := info_parts Tryz.infoRule
 obtain ⟨j0, hj0, hy0, hy1, hy2⟩ := info_parts Tryz.infoNode
 have H := Lib.hid (And.intro hn (And.intro hr (And.intro hs hsum)))
 clear hn hr hs hsum
 go_enter Tryz.func25, Tryz.ntmps25
 go_wp2_with fail
 go_loopg [4] n (fun dd iv wr => ∃ (i : Nat) (a1 a2 : Option Addr) (d1 d2 q : Nat), dd = n - i ∧ i ≤ n ∧ iv = .int .i64 i ∧ Hid (wr.heap[w.heap.size + 1]? = some (.cells #[.slice a1 i d1, .slice a2 q d2] 31 (0, 0)) ∧ (∃ L, L.map (·.1) = gramN (KL.take i) 0 ∧ OwnN w.heap.size wr a2 d2 L) ∧ FreshRules w.heap.size wr a1 d1 (gramRs (KL.take i) 0 0) ∧ q = sumL (KL.take i) ∧ wr.heap[w.heap.size]? = some (.cells #[.slice none 0 0, .slice none 0 0] 31 (0, 0)) ∧ Chg [] w wr))
 case atStart =>
  refine ⟨0, none, none, 0, 0, 0, rfl, Nat.zero_le _, rfl, Lib.hid ⟨?_, ⟨[], rfl, OwnN.nil _ _⟩, World.ownsRow_nil _ _ _ _, rfl, heap_alloc_lt (heap_alloc_same _ _) _, ((Chg.refl [] w).alloc _).alloc _⟩⟩
  have := heap_alloc_same (w.alloc (.cells #[.slice none 0 0, .slice none 0 0] 31)) (.cells #[.slice none 0 0, .slice none 0 0] 31)
  rwa [World.size_alloc] at this
 case round =>
  obtain ⟨i, a1, a2, d1, d2, q, rfl, hi, rfl, hin⟩ := hrel
  obtain ⟨wq, rfl⟩ : ∃ wq, wq = wr := ⟨_, rfl⟩
  obtain ⟨x0, x1⟩ := cells2 hin.out.1
  by_cases hlt : i < n
  ·have hiK : i < KL.length := by have := H.out.1; omega
   obtain ⟨L, hL⟩ := hin.out.2.1
   have hq3 : q ≤ 3000 := by have := sumL_take KL i; have := H.out.2.2.2; have := hin.out.2.2.2.1; omega
   have hrl : (gramRs (KL.take i) 0 0).length = i := by rw [gramRs_len, List.length_take]; omega
   have hu : ((65 + (i : Int)) % 256) = ((UInt8.ofNat (65 + i)).toNat : Int) := by simp
   have hconv := run_convert_bytes_back (P := Tryz.prog) (wq.alloc (.cells #[.int .u8 ((65 + (i : Int)) % 256)] 5)) 86 9 5 ⟨wq.heap.size, 0, none⟩ 1 [UInt8.ofNat (65 + i)] Tryz.underlying86 Tryz.underlying5 Tryz.underlying9 (by
    intro j hj
    have hj0 : j = 0 := by simpa using hj
    subst hj0
    have h1 := cells_at (w := wq.alloc (.cells #[.int .u8 ((65 + (i : Int)) % 256)] 5)) (heap_alloc_same _ _) 0 (.int .u8 ((65 + (i : Int)) % 256)) rfl
    rw [h1, hu]; rfl)
   have hconv : (convert 86 9 (.slice (some ⟨wq.heap.size, 0, none⟩) 1 1)).run Tryz.prog (wq.alloc (.cells #[.int .u8 ((65 + (i : Int)) % 256)] 5)) = .ok (.string (gname i)) (wq.alloc (.cells #[.int .u8 ((65 + (i : Int)) % 256)] 5)) := hconv
   obtain ⟨nm, hnm⟩ : ∃ nm, nm = gname i := ⟨_, rfl⟩
   rw [← hnm] at hconv
   have hrow := hin.out.2.2.1
   rw [FreshRules, hrl] at hrow
   have hca := ((Chg.refl [] wq).alloc (.cells #[.int .u8 ((65 + (i : Int)) % 256)] 5)).alloc (.cells #[.string nm, .int .i64 q] 53)
   have hrow2 := World.ownsRow.alloc (World.ownsRow.alloc hrow (.cells #[.int .u8 ((65 + (i : Int)) % 256)] 5)) (.cells #[.string nm, .int .i64 q] 53)
   have hnew := cells_at (w := (wq.alloc (.cells #[.int .u8 ((65 + (i : Int)) % 256)] 5)).alloc (.cells #[.string nm, .int .i64 q] 53)) (heap_alloc_same _ _)
   rw [World.size_alloc] at hnew
   have h1' : ∀ u ∈ [Value.string nm, Value.int .i64 (q : Int)], u.oneCell' = true := by simp [Value.oneCell']
   have h2' : i + 1 ≤ maxLen ∧ (i + 1) * 24 ≤ 140737488355328 := by simp only [maxLen]; omega
   have hb' : w.heap.size ≤ ((wq.alloc (.cells #[.int .u8 ((65 + (i : Int)) % 256)] 5)).alloc (.cells #[.string nm, .int .i64 q] 53)).heap.size := (hin.out.2.2.2.2.2.tr hca).size
   have hT2 := heap_alloc_lt (heap_alloc_lt hin.out.1 (.cells #[.int .u8 ((65 + (i : Int)) % 256)] 5)) (.cells #[.string nm, .int .i64 q] 53)
   have HA := Lib.hid (And.intro hrow2 (And.intro hnew (And.intro h1' (And.intro h2' (And.intro hb' (And.intro hT2 hca))))))
   have HN := Lib.hid (And.intro hL (And.intro hnm (And.intro hiK hrl)))
   clear hrow hrow2 hnew h1' h2' hb' hT2 hca hu hL hnm hiK hrl
   go_wp2_with (at_builtin; refine wpList_append_own_at _ rfl _ _ 28 rfl w.heap.size 53 i0 _ 2 24 Tryz.underlying28 hi0 hz0 hz1 hz2 rfl (by decide) (.slice a1 i d1) i (rulesCells (gramRs (KL.take i) 0 0)) rfl HA.out.1 ⟨wq.heap.size + 1, 0, none⟩ 1 1 [.string nm, .int .i64 (q : Int)] rfl rfl HA.out.2.1 HA.out.2.2.1 HA.out.2.2.2.1.1 HA.out.2.2.2.1.2 HA.out.2.2.2.2.1 ?_; intro v' w5 hr5 hg5 hn5 hb5; obtain ⟨a5, c5, rfl⟩ := ownsRow_slice hr5; have hO5 := grown_heap hg5 HA.out.2.2.2.2.2.1 (ownsRow_ne HA.out.1 HA.out.2.2.2.2.2.1 (by decide)); have z0 := (cells2 hO5).1; have f0 := free_of_cells hO5 0; have HW := Lib.hid (And.intro hr5 (And.intro hg5 hO5)); clear hr5 hg5 hn5 hb5 hO5)
   clear z0 f0 hconv x0 x1
   obtain ⟨ba, oa, ak, ck, rfl, hkc, hkn⟩ := H.out.2.1 i HN.out.2.2.1
   obtain ⟨ml, hml⟩ : ∃ ml, ml = (KL[i]'HN.out.2.2.1).length := ⟨_, rfl⟩
   obtain ⟨bd, hbd⟩ : ∃ bd, bd = KL[i]'HN.out.2.2.1 := ⟨_, rfl⟩
   rw [← hbd] at hml hkn hkc
   rw [← hml] at hkc
   have hbd2 : KL[i]? = some bd := by rw [hbd]; exact List.getElem?_eq_getElem HN.out.2.2.1
   have hsmall : Small bd := by rw [hbd]; exact H.out.2.2.1 _ (List.getElem_mem HN.out.2.2.1)
   clear hbd
   have hO6 := heap_setCell_same HW.out.2.2 0 (.slice a5 (i + 1) c5)
   simp only [List.setIfInBounds_toArray, List.set_cons_zero] at hO6
   have hcT := (Chg.refl [w.heap.size + 1] w5).setCell (p := ⟨w.heap.size + 1, 0, none⟩) (.inl (by simp)) (.slice a5 (i + 1) c5)
   have hc5 : Chg (Value.slice a1 i d1).ownBlock.toList ((wq.alloc (.cells #[.int .u8 ((65 + (i : Int)) % 256)] 5)).alloc (.cells #[.string nm, .int .i64 q] 53)) w5 := (Chg.refl _ _).grown HW.out.2.1 (fun k hk => .inl (by rw [hk]; simp))
   have hown5 := (HN.out.1.2.chg0 HA.out.2.2.2.2.2.2).chg hc5 (fun k hk => by
    simp only [Option.mem_toList] at hk
    exact ⟨row_notrow HA.out.1 hk (by decide), row_notrow HA.out.1 hk (by decide)⟩)
   have hown6 := hown5.chg hcT (fun k hk => by simp only [List.mem_singleton] at hk; subst hk; exact ⟨.of_cells HW.out.2.2 (by decide), .of_cells HW.out.2.2 (by decide)⟩)
   have hsnoc : gramRs (KL.take (i + 1)) 0 0 = gramRs (KL.take i) 0 0 ++ [⟨nm, (q : Int)⟩] := by
    rw [List.take_succ_eq_append_getElem HN.out.2.2.1, gramRs_snoc, HN.out.2.1, hin.out.2.2.2.1, List.length_take]
    simp only [Nat.zero_add]
    rw [Nat.min_eq_left (Nat.le_of_lt HN.out.2.2.1)]
   have hrules6 : FreshRules w.heap.size (w5.setCell ⟨w.heap.size + 1, 0, none⟩ (.slice a5 (i + 1) c5)) a5 c5 (gramRs (KL.take (i + 1)) 0 0) := by
    refine hcT.rowOf ?_ (fun k hk => by simp only [List.mem_singleton] at hk; subst hk; exact .of_cells HW.out.2.2 (by decide))
    rw [hsnoc, List.length_append, HN.out.2.2.2]
    have e1 : rulesCells (gramRs (KL.take i) 0 0 ++ [⟨nm, (q : Int)⟩]) = rulesCells (gramRs (KL.take i) 0 0) ++ [.string nm, .int .i64 q] := by simp [rulesCells, Rl.cells]
    rw [e1]
    exact HW.out.1
   have hcw6 : Chg [] w (w5.setCell ⟨w.heap.size + 1, 0, none⟩ (.slice a5 (i + 1) c5)) := by
    refine ((hin.out.2.2.2.2.2.tr HA.out.2.2.2.2.2.2).trans hc5 (fun j hj => .inr ?_)).trans hcT (fun j hj => .inr (by simp at hj; omega))
    simp only [Option.mem_toList] at hj
    exact (row_beyond HA.out.1 hj).1
   have hres6 : (w5.setCell ⟨w.heap.size + 1, 0, none⟩ (.slice a5 (i + 1) c5)).heap[w.heap.size]? = some (.cells #[.slice none 0 0, .slice none 0 0] 31 (0, 0)) := by
    refine hcT.heap (hc5.heap (HA.out.2.2.2.2.2.2.heap hin.out.2.2.2.2.1 (by simp)) ?_) (by simp)
    intro hm
    simp only [Option.mem_toList] at hm
    have h3 := ownsRow_ne HA.out.1 (HA.out.2.2.2.2.2.2.heap hin.out.2.2.2.2.1 (by simp)) (by decide)
    exact h3 hm
   obtain ⟨w6, e6⟩ : ∃ w6, w6 = w5.setCell ⟨w.heap.size + 1, 0, none⟩ (.slice a5 (i + 1) c5) := ⟨_, rfl⟩
   rw [← e6] at hO6 hown6 hrules6 hcw6 hres6 ⊢
   have hrow6 := hown6.nodes
   have hLq : L.length = q := by
    have h1 := congrArg List.length HN.out.1.1
    rw [List.length_map, gramN_sum] at h1
    rw [h1, hin.out.2.2.2.1]
   rw [hLq] at hrow6
   have hbal := World.block_lt_of_cell? _ _ hkc
   simp only at hbal
   have hkeep : ∀ W, Chg ((w.heap.size + 1) :: (Value.slice a2 q d2).ownBlock.toList) w6 W → W.cell? ⟨ba, oa + i, none⟩ = some (.slice ak ml ck) := fun W hW => hW.cell (hcw6.cell hkc (by simp)) (fun hm => by
    rcases List.mem_cons.1 hm with h | h
    ·have h' : ba = w.heap.size + 1 := h
     omega
    ·simp only [Option.mem_toList] at h
     have h' := (row_beyond hrow6 h).1
     have h'' : w.heap.size ≤ ba := h'
     omega)
   have HG := Lib.hid (And.intro hO6 (And.intro hown6 (And.intro hrules6 (And.intro hcw6 (And.intro hres6 (And.intro hrow6 (And.intro hkeep (And.intro hml (And.intro hkn (And.intro hbd2 (And.intro hsmall hLq)))))))))))
   clear e6 hO6 hcT hc5 hown5 hown6 hsnoc hrules6 hcw6 hres6 hrow6 hkeep hml hkn hbd2 hsmall hkc hbal hLq
   refine wp_region_inv (by kernel_rfl) (by kernel_rfl) (fun l a' w' => ∃ u27 u28 u29 u30 u31 u32 u33 u34 u35 u36 p, GramP w.heap.size w6 (w.heap.size + 1) (.slice a5 (i + 1) c5) a2 q d2 ml L bd p u34 u35 w' ∧ (l 7 = decide (1 ≤ p)) ∧ (l 8 = decide (2 ≤ p)) ∧ (l 10 = decide (3 ≤ p)) ∧ p ≤ 3 ∧ (2 ≤ p → l 1 = true) ∧ (l 0 = true → u27 = .pointer (some ⟨w.heap.size + 1, 1, none⟩)) ∧ (l 1 = true → u28 = .slice a2 q d2) ∧ (l 2 = true → u29 = .slice (some ⟨ba, oa, none⟩) n c) ∧ (l 3 = true → u30 = .int .i64 i) ∧ (l 4 = true → u31 = .pointer (some ⟨ba, oa + i, none⟩)) ∧ (l 5 = true → u32 = .slice ak ml ck) ∧ (l 6 = true → u33 = .int .i64 q) ∧ (l 9 = true → u36 = .pointer (some ⟨w.heap.size + 1, 1, none⟩)) ∧ a' = { tmps := #[.slice (some ⟨ba, oa, none⟩) n c, undef, .pointer (some ⟨w.heap.size, 0, none⟩), .pointer (some ⟨w.heap.size + 1, 0, none⟩), .int .i64 i, .int .i64 q, .int .i64 i, .slice (some ⟨ba, oa, none⟩) n c, .int .i64 n, .bool true, u10, u11, .pointer (some ⟨w.heap.size + 1, 1, none⟩), .slice a2 q d2, .int .i64 q, .pointer (some ⟨w.heap.size + 1, 0, none⟩), .slice a1 i d1, .int .i64 i, .int .u8 (i % 256), .int .u8 ((65 + (i : Int)) % 256), .slice (some ⟨wq.heap.size, 0, none⟩) 1 1, .string nm, .int .i64 q, .agg #[.string nm, .int .i64 q], .slice (some ⟨wq.heap.size + 1, 0, none⟩) 1 1, .slice a5 (i + 1) c5, .pointer (some ⟨w.heap.size + 1, 0, none⟩), u27, u28, u29, u30, u31, u32, u33, u34, u35, u36, undef], defers := [] }) ?h0 ?hstep ?hdone
   case h0 =>
    exact ⟨u27, u28, u29, u30, u31, u32, u33, u34, u35, u36, 0, ⟨(Chg.refl _ _).drew, fun _ => HG.out.1, fun _ => (Chg.refl _ _).drew, fun h => by omega, fun h => by omega⟩, rfl, rfl, rfl, by omega, fun h => by omega, (fun h => by cases h), (fun h => by cases h), (fun h => by cases h), (fun h => by cases h), (fun h => by cases h), (fun h => by cases h), (fun h => by cases h), (fun h => by cases h), rfl⟩
   case hstep =>
    rintro l a' w' ⟨u27, u28, u29, u30, u31, u32, u33, u34, u35, u36, p, hP, e7, e8, e10, hp3, d1', c0, c1, c2, c3, c4, c5, c6, c9, rfl⟩ j hj hlj hdep
    have hj11 : j < 11 := hj
    rcases (show j = 0 ∨ j = 1 ∨ j = 2 ∨ j = 3 ∨ j = 4 ∨ j = 5 ∨ j = 6 ∨ j = 7 ∨ j = 8 ∨ j = 9 ∨ j = 10 by omega) with rfl | rfl | rfl | rfl | rfl | rfl | rfl | rfl | rfl | rfl | rfl
    ·refine wpOp_atK rfl rfl fun K hK => ?_
     go_simp
     exact hK _ _ ⟨_, _, _, _, _, _, _, _, _, _, p, hP, by simpa using e7, by simpa using e8, by simpa using e10, hp3, by simpa using d1', fun _ => rfl, by simpa using c1, by simpa using c2, by simpa using c3, by simpa using c4, by simpa using c5, by simpa using c6, by simpa using c9, rfl⟩
    ·have l0 := hdep _ rfl { on := 0, ground := .data } (by simp) (by kernel_rfl)
     obtain rfl := c0 l0
     have hp2 : p < 2 := by
      by_cases h : 2 ≤ p
      ·have := d1' h; rw [hlj] at this; cases this
      ·omega
     have x1 := (cells2 (hP.box (by omega))).2
     refine wpOp_atK rfl rfl fun K hK => ?_
     go_simp
     exact hK _ _ ⟨_, _, _, _, _, _, _, _, _, _, p, hP, by simpa using e7, by simpa using e8, by simpa using e10, hp3, fun _ => by simp, by simpa using c0, fun _ => rfl, by simpa using c2, by simpa using c3, by simpa using c4, by simpa using c5, by simpa using c6, by simpa using c9, rfl⟩
    ·refine wpOp_atK rfl rfl fun K hK => ?_
     go_simp
     exact hK _ _ ⟨_, _, _, _, _, _, _, _, _, _, p, hP, by simpa using e7, by simpa using e8, by simpa using e10, hp3, by simpa using d1', by simpa using c0, by simpa using c1, fun _ => rfl, by simpa using c3, by simpa using c4, by simpa using c5, by simpa using c6, by simpa using c9, rfl⟩
    ·refine wpOp_atK rfl rfl fun K hK => ?_
     go_simp
     exact hK _ _ ⟨_, _, _, _, _, _, _, _, _, _, p, hP, by simpa using e7, by simpa using e8, by simpa using e10, hp3, by simpa using d1', by simpa using c0, by simpa using c1, by simpa using c2, fun _ => rfl, by simpa using c4, by simpa using c5, by simpa using c6, by simpa using c9, rfl⟩
    ·have l2 := hdep _ rfl { on := 2, ground := .data } (by simp) (by kernel_rfl)
     have l3 := hdep _ rfl { on := 3, ground := .data } (by simp) (by kernel_rfl)
     obtain rfl := c2 l2
     obtain rfl := c3 l3
     refine wpOp_atK rfl rfl fun K hK => ?_
     go_simp
     exact hK _ _ ⟨_, _, _, _, _, _, _, _, _, _, p, hP, by simpa using e7, by simpa using e8, by simpa using e10, hp3, by simpa using d1', by simpa using c0, by simpa using c1, by simpa using c2, by simpa using c3, fun _ => rfl, by simpa using c5, by simpa using c6, by simpa using c9, rfl⟩
    ·have l4 := hdep _ rfl { on := 4, ground := .data } (by simp) (by kernel_rfl)
     obtain rfl := c4 l4
     have x1 := HG.out.2.2.2.2.2.2.1 _ hP.chg
     refine wpOp_atK rfl rfl fun K hK => ?_
     go_simp
     exact hK _ _ ⟨_, _, _, _, _, _, _, _, _, _, p, hP, by simpa using e7, by simpa using e8, by simpa using e10, hp3, by simpa using d1', by simpa using c0, by simpa using c1, by simpa using c2, by simpa using c3, by simpa using c4, fun _ => rfl, by simpa using c6, by simpa using c9, rfl⟩
    ·refine wpOp_atK rfl rfl fun K hK => ?_
     go_simp
     exact hK _ _ ⟨_, _, _, _, _, _, _, _, _, _, p, hP, by simpa using e7, by simpa using e8, by simpa using e10, hp3, by simpa using d1', by simpa using c0, by simpa using c1, by simpa using c2, by simpa using c3, by simpa using c4, by simpa using c5, fun _ => rfl, by simpa using c9, rfl⟩
    ·have l5 := hdep _ rfl { on := 5, ground := .data } (by simp) (by kernel_rfl)
     have l6 := hdep _ rfl { on := 6, ground := .data } (by simp) (by kernel_rfl)
     obtain rfl := c5 l5
     obtain rfl := c6 l6
     have hp0 : p = 0 := by rw [hlj] at e7; simp at e7; omega
     subst hp0
     refine wpOp_atK rfl rfl fun K hK => ?_
     go_simp
     obtain ⟨hO6, hown6, hrules6, hcw6, hres6, hrow6, hkeep, hml, hkn, hbd2, hsmall, hLq⟩ := HG.out
     have hold := hP.old (by omega)
     refine (moved_any w' ak ml ck bd (q : Int) hml (by rw [hml]; exact hsmall.len) (hkn.keep (hcw6.tr hold).kp) (fun x hx => (hsmall.kids x hx).1) (fun x hx z hz => by have := (hsmall.kids x hx).2 z hz; constructor <;> omega)).mono ?_
     rintro e w7 ⟨rb, rd, M, rfl, hM, hown7, hc7⟩
     have hMl : M.length = ml := by
      have := congrArg List.length hM
      rw [List.length_map, movedL_len] at this
      omega
     obtain ⟨G2, rfl, hG2, hsrc⟩ := hown7.src (fun h => by subst h; have := hsmall.one; have := List.length_pos_iff.2 this; simp at hMl; omega)
     rw [movedL_len, ← hml]
     refine hK _ _ ⟨_, _, _, _, _, _, _, _, _, _, 1, ⟨hP.chg.tr0 hc7, fun _ => hc7.heap (hP.box (by omega)) (by simp), fun _ => hold.tr hc7, fun _ _ => ⟨G2, rd, M, rfl, hM, hown7.below hold.size, hsrc⟩, fun h => by omega⟩, by simp, by simpa using e8, by simpa using e10, by omega, fun h => by omega, by simpa using c0, by simpa using c1, by simpa using c2, by simpa using c3, by simpa using c4, fun _ => rfl, fun _ => rfl, by simpa using c9, rfl⟩
    ·have l1 := hdep _ rfl { on := 1, ground := .data } (by simp) (by kernel_rfl)
     have l7 := hdep _ rfl { on := 7, ground := .data } (by simp) (by kernel_rfl)
     obtain rfl := c1 l1
     have hp1 : p = 1 := by rw [l7] at e7; rw [hlj] at e8; simp at e7 e8; omega
     subst hp1
     obtain ⟨G2, rd, M, rfl, hM, hown7, hsrc⟩ := hP.mid (by omega) (by omega)
     obtain ⟨hO6, hown6, hrules6, hcw6, hres6, hrow6, hkeep, hml, hkn, hbd2, hsmall, hLq⟩ := HG.out
     have hold := hP.old (by omega)
     have hMl : M.length = ml := by
      have := congrArg List.length hM
      rw [List.length_map, movedL_len] at this
      omega
     have hrow' := (hown6.chg0 hold).nodes
     rw [hLq] at hrow'
     have hl7 : (nodesCells M).length = ml * 9 := by rw [nodesCells_len, hMl]
     have h2' : q + ml ≤ maxLen ∧ (q + ml) * 96 ≤ 140737488355328 := by have := hsmall.len; simp only [maxLen]; omega
     refine wpOp_atK rfl rfl fun K hK => ?_
     refine wpOper_append_own_at _ _ 29 rfl w.heap.size 65 j0 _ 9 96 Tryz.underlying29 hj0 hy0 hy1 hy2 rfl (by decide) (.slice a2 q d2) q (nodesCells L) rfl hrow' ⟨G2, 0, none⟩ ml rd (nodesCells M) rfl hl7 hsrc (cells_one M) h2'.1 h2'.2 (hcw6.tr hold).size ?_
     intro v8 w8 h81 h82 h84
     obtain ⟨a8, c8, rfl⟩ := ownsRow_slice h81
     have hj := (hown6.chg0 hold).join (M := M) (b2' := a8) (d2' := c8) (w1 := w8) (fun r hr => row_base (hown7.kids r hr) hcw6.size) hown7.apart
      (fun r hr t ht i j hi hj e => by
       have q1 := (row_beyond (hown6.kids r hr) hi).2.1
       have q2 := (row_beyond (hown7.kids t ht) hj).1
       omega)
      (by rw [hLq, hMl]; exact h81) (by rw [hLq]; exact h82)
     have hT7 := hP.box (by omega)
     have hT8 := grown_heap h82 hT7 (ownsRow_ne hrow' hT7 (by decide))
     have hc8 : Chg ((w.heap.size + 1) :: (Value.slice a2 q d2).ownBlock.toList) w6 w8 := hP.chg.grown h82 (fun k hk => .inl (by rw [hk]; simp))
     exact hK _ _ ⟨_, _, _, _, _, _, _, _, _, _, 2, ⟨hc8, fun _ => hT8, fun h => by omega, fun _ h => by omega, fun _ => ⟨a8, c8, M, rfl, hM, hj, fun h => by omega⟩⟩, by simpa using l7, by simp, by simpa using e10, by omega, fun _ => by simpa using l1, by simpa using c0, fun _ => rfl, by simpa using c2, by simpa using c3, by simpa using c4, by simpa using c5, by simpa using c6, by simpa using c9, rfl⟩
    ·refine wpOp_atK rfl rfl fun K hK => ?_
     go_simp
     exact hK _ _ ⟨_, _, _, _, _, _, _, _, _, _, p, hP, by simpa using e7, by simpa using e8, by simpa using e10, hp3, by simpa using d1', by simpa using c0, by simpa using c1, by simpa using c2, by simpa using c3, by simpa using c4, by simpa using c5, by simpa using c6, fun _ => rfl, rfl⟩
    ·have l9 := hdep _ rfl { on := 9, ground := .data } (by simp) (by kernel_rfl)
     have l8 := hdep _ rfl { on := 8, ground := .data } (by simp) (by kernel_rfl)
     obtain rfl := c9 l9
     have hp2 : p = 2 := by rw [l8] at e8; rw [hlj] at e10; simp at e8 e10; omega
     subst hp2
     obtain ⟨a8, d8, M, rfl, hM, hj8, _⟩ := hP.fin (by omega)
     have hT := hP.box (by omega)
     have x1 := (cells2 hT).2
     have f1 := free_of_cells hT 1
     refine wpOp_atK rfl rfl fun K hK => ?_
     go_simp
     have hcT := (Chg.refl [w.heap.size + 1] w').setCell (p := ⟨w.heap.size + 1, 1, none⟩) (.inl (by simp)) (.slice a8 (q + ml) d8)
     have hO := heap_setCell_same hT 1 (.slice a8 (q + ml) d8)
     simp at hO
     refine hK _ _ ⟨_, _, _, _, _, _, _, _, _, _, 3, ⟨hP.chg.trans hcT (fun j hj => .inl (by simp at hj; simp [hj])), fun h => by omega, fun h => by omega, fun _ h => by omega, fun _ => ⟨a8, d8, M, rfl, hM, hj8.chg hcT (fun k hk => by simp only [List.mem_singleton] at hk; subst hk; exact ⟨.of_cells hT (by decide), .of_cells hT (by decide)⟩), fun _ => hO⟩⟩, by simpa using e7, by simpa using l8, by simp, by omega, by simpa using d1', by simpa using c0, by simpa using c1, by simpa using c2, by simpa using c3, by simpa using c4, by simpa using c5, by simpa using c6, fun _ => rfl, rfl⟩
   case hdone =>
    rintro l a' w' ⟨u27, u28, u29, u30, u31, u32, u33, u34, u35, u36, p, hP, e7, e8, e10, hp3, d1', c0, c1, c2, c3, c4, c5, c6, c9, rfl⟩ hall
    have hp : p = 3 := by have := hall 10 (by decide); rw [e10] at this; simp at this; omega
    subst hp
    obtain ⟨a8, d8, M, rfl, hM, hj8, hT8⟩ := hP.fin (by omega)
    have HD := Lib.hid (And.intro hM (And.intro hj8 (And.intro (hT8 (by omega)) hP.chg)))
    clear hP e7 e8 e10 hp3 d1' c0 c1 c2 c3 c4 c5 c6 c9 hall hM hj8 hT8
    go_wp2_with fail
    go_roundg (n - (i + 1))
    case measure => omega
    case rel =>
     obtain ⟨hO6, hown6, hrules6, hcw6, hres6, hrow6, hkeep, hml, hkn, hbd2, hsmall, hLq⟩ := HG.out
     obtain ⟨hM, hj8, hT8, hch⟩ := HD.out
     obtain ⟨hiK, hbd3⟩ := List.getElem?_eq_some_iff.1 hbd2
     subst hbd3
     have hw6 : ∀ j ∈ (w.heap.size + 1) :: (Value.slice a2 q d2).ownBlock.toList, w.heap.size + 1 ≤ j ∨ w.heap.size ≤ j := fun j hj => by
      rcases List.mem_cons.1 hj with rfl | h
      ·exact .inl (Nat.le_refl _)
      ·simp only [Option.mem_toList] at h
       exact .inr (row_beyond hrow6 h).1
     refine ⟨i + 1, a5, a8, c5, d8, q + ml, rfl, by omega, by go_num, Lib.hid ⟨hT8, ⟨L ++ M, ?_, hj8⟩, ?_, ?_, ?_, ?_⟩⟩
     ·rw [List.map_append, hM, HN.out.1.1, List.take_succ_eq_append_getElem hiK, gramN_snoc, Nat.zero_add, hin.out.2.2.2.1]
     ·refine hch.rowOf hrules6 (fun k hk => ?_)
      rcases List.mem_cons.1 hk with rfl | h
      ·exact .of_cells hO6 (by decide)
      ·simp only [Option.mem_toList] at h
       exact row_notrow hrow6 h (by decide)
     ·rw [sumL_next KL hiK, ← hin.out.2.2.2.1, ← hml]
     ·refine hch.heap hres6 (fun hm => ?_)
      rcases List.mem_cons.1 hm with h | h
      ·omega
      ·simp only [Option.mem_toList] at h
       exact ownsRow_ne hrow6 hres6 (by decide) h
     ·refine hcw6.trans hch (fun j hj => .inr ?_)
      rcases hw6 j hj with h | h <;> omega
  ·obtain rfl : i = n := by omega
   have hT := hin.out.1
   have hres := hin.out.2.2.2.2.1
   have r0 := (cells2 hres).1
   have r1 := (cells2 hres).2
   have f0 := free_of_cells hres 0
   have f1 := free_of_cells hres 1
   go_wp2_with fail
   clear r0 r1 f0 f1
   obtain ⟨hT, ⟨L, hL, hown⟩, hrules, hq, hres, hch⟩ := hin.out
   have hc := ((Chg.refl [w.heap.size] wq).setCell (p := ⟨w.heap.size, 0, none⟩) (.inl (by simp)) (.slice a1 i d1)).setCell (p := ⟨w.heap.size, 1, none⟩) (.inl (by simp)) (.slice a2 q d2)
   have hz := heap_setCell_same (heap_setCell_same hres 0 (.slice a1 i d1)) 1 (.slice a2 q d2)
   simp at hz
   obtain ⟨y0, y1⟩ := cells2 hz
   have hTl := lt_of_block hz
   refine bodyPost_ret (v := .agg #[.slice a1 i d1, .slice a2 q d2]) (by simp [results, Tryz.results25, go_sem, y0, y1, hTl]) rfl ?_
   have hnot : ∀ k ∈ [w.heap.size], ∀ e, 31 ≠ e → NotRow wq e k := fun k hk e he => by simp only [List.mem_singleton] at hk; subst hk; exact .of_cells hres he
   have hi : (gramL KL).rules.length = i := by simp [gramL, gramRs_len, H.out.1]
   have hq' : (gramL KL).nodes.length = q := by rw [hq, H.out.1, List.take_length]; exact gramN_sum _ _
   rw [H.out.1, List.take_length] at hL hrules
   refine ⟨a1, d1, a2, d2, L, by rw [hi, hq'], hL, hc.rowOf hrules (fun k hk => hnot k hk _ (by decide)), hown.chg hc (fun k hk => ⟨hnot k hk _ (by decide), hnot k hk _ (by decide)⟩), hch.trans hc (fun j hj => .inr (by simp at hj; omega))⟩
end Go.Proofs.YtlklmpjakeedcaaGreatDoor

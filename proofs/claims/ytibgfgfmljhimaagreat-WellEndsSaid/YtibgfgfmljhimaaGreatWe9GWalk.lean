/-
  slices.Clone of numbers and of rules: the same in memory of its own.
  Conditions: the lists read as data; they are within the reach.
-/
import Derived.Test.YtibgfgfmljhimaaGreatWe9GCopy
import Derived.Lib.SliceRun
import Derived.Maps.AppendAt
import Derived.Test.YtibgfgfmljhimaaGreatWe9GRnd
import Derived.Shelf.Abstract
import Derived.Shelf.RegionOpen
import Derived.WalkKit
import Derived.OwnWalkIn
import Derived.TacticsInMore
import Derived.LoopNIn
import Derived.LoopIn
import Derived.Sort.LoopGhostIn
import Derived.Test.YtibgfgfmljhimaaGreatWe9GAft
set_option linter.unusedVariables false
set_option linter.unusedSimpArgs false
namespace Go.Proofs.YtibgfgfmljhimaaGreat
open Go.RowKit Go.MapKept Go.Shelf

/-- A row of one's own, beyond B, that holds numbers. -/
def FreshInts (B : Nat) (w : World) (a : Option Addr) (c : Nat) (zs : List Int) : Prop := w.ownsRow B 3 1 (.slice a zs.length c) zs.length (zs.map (Value.int .i64))
def FreshRules (B : Nat) (w : World) (a : Option Addr) (c : Nat) (rs : List Rl) : Prop := w.ownsRow B 43 2 (.slice a rs.length c) rs.length (rulesCells rs)
theorem row_base {W : World} {base base' : Nat} {e : TypeId} {size : Nat} {v : Value} {k : Nat} {xs : List Value} (h : W.ownsRow base e size v k xs) (hb : base' ≤ base) : W.ownsRow base' e size v k xs := by
  refine ⟨h.1, ?_⟩
  rcases h.2 with hn | ⟨g, cap, cur, hv, hbg, rest⟩
  · exact .inl hn
  · exact .inr ⟨g, cap, cur, hv, Nat.le_trans hb hbg, rest⟩
theorem FreshInts.own {B : Nat} {w : World} {a : Option Addr} {c : Nat} {zs : List Int} (h : FreshInts B w a c zs) : OwnInts w (.slice a zs.length c) zs := row_base h (Nat.zero_le _)
theorem row_beyond {W : World} {B : Nat} {e : TypeId} {size : Nat} {v : Value} {k : Nat} {xs : List Value} (h : W.ownsRow B e size v k xs) {j : Nat} (hj : v.ownBlock = some j) : B ≤ j ∧ j < W.heap.size ∧ ∃ cur, W.heap[j]? = some (.cells cur e (0, 0)) := by
  rcases h.2 with ⟨h0, h1⟩ | ⟨g, cap, cur, h0, hb, hg, _⟩
  · subst h0; cases hj
  · subst h0; cases hj; exact ⟨hb, (Array.getElem?_eq_some_iff.1 hg).1, cur, hg⟩
def ClonedInts (w : World) (zs : List Int) (e : Ending) (w' : World) : Prop := ∃ a c, e = .returned (.slice a zs.length c) ∧ FreshInts w.heap.size w' a c zs ∧ Chg [] w w'
def ClonedRules (w : World) (rs : List Rl) (e : Ending) (w' : World) : Prop := ∃ a c, e = .returned (.slice a rs.length c) ∧ FreshRules w.heap.size w' a c rs ∧ Chg [] w w'

set_option maxRecDepth 100000 in
set_option maxHeartbeats 1000000 in
theorem CloneInts_any (w : World) (a : Option Addr) (n c : Nat) (zs : List Int) (hn : n = zs.length) (hs : n ≤ 17592186044416) (hz : Ints w a zs) :
    Calls Tryz.prog 183 #[.slice a n c] w (ClonedInts w zs) := by
  obtain ⟨i0, hi, hz0, hz1, hz2⟩ := info_parts Tryz.infoInt
  have q : ∀ (w : World) (a : Option Addr) (n c n' c' : Nat), (binOp .eql 48 (.slice a n c) (.slice none n' c')).run Tryz.prog w = .ok (.bool a.isNone) w := fun w a n c n' c' => Lib.run_eql_slice_nil w _ _ a n c n' c' Tryz.underlying48
  have u : ∀ w, Sem.run Tryz.prog (underlying 48) w = .ok (TypeDesc.slice 3) w := run_underlying Tryz.underlying48
  cases a with
  | none =>
    obtain rfl := ints_none hz
    obtain rfl : n = 0 := by simpa using hn
    clear hz hn
    go_enter Tryz.func183, Tryz.ntmps183
    go_wp2
    go_ret
    exact ⟨none, 0, rfl, World.ownsRow_nil _ _ _ _, Chg.refl _ _⟩
  | some b =>
    have hl : (zs.map (Value.int .i64)).length = n * 1 := by simp [hn]
    have h1 : ∀ u ∈ zs.map (Value.int .i64), u.oneCell' = true := by
      intro u hu
      obtain ⟨z, _, rfl⟩ := List.mem_map.1 hu
      rfl
    have h2 : 0 + n ≤ maxLen ∧ (0 + n) * 8 ≤ 140737488355328 := by simp only [maxLen]; omega
    have h3 : ∀ j u, (zs.map (Value.int .i64))[j]? = some u → (w.alloc (.cells #[] 3)).cell? (b.add j) = some u := fun j u hj => Lib.cell?_alloc_some _ (ints_some hz j u hj)
    have HN := Lib.hid (And.intro hl (And.intro h3 (And.intro h1 (And.intro h2 hn))))
    clear hl h1 h2 h3 hz hn
    go_enter Tryz.func183, Tryz.ntmps183
    go_wp2_with (at_builtin; refine wpList_append_own_at _ rfl _ _ 48 rfl w.heap.size 3 i0 _ 1 8 Tryz.underlying48 hi hz0 hz1 hz2 rfl (by decide) _ _ _ rfl (World.ownsRow_made w #[] 0 (Nat.le_refl _) (Nat.zero_le _) rfl) b n c (zs.map (Value.int .i64)) rfl HN.out.1 HN.out.2.1 HN.out.2.2.1 HN.out.2.2.2.1.1 HN.out.2.2.2.1.2 (by simp) ?_; intro v' w1 hown hgrow hnil hblk; obtain ⟨a', c', rfl⟩ := ownsRow_slice hown; have HW := Lib.hid (And.intro hown hgrow); clear hown hgrow hnil hblk)
    go_ret
    obtain ⟨hl, h3, h1, h2, hn⟩ := HN.out
    obtain ⟨hr, hg⟩ := HW.out
    subst hn
    simp only [Nat.zero_add] at hr ⊢
    exact ⟨a', c', rfl, by simpa [FreshInts] using hr, ((Chg.refl [] w).alloc _).grown hg (fun k hk => .inr (by have h0 : some w.heap.size = some k := hk; simp at h0; omega))⟩

set_option maxRecDepth 100000 in
set_option maxHeartbeats 1000000 in
theorem CloneRules_any (w : World) (a : Option Addr) (n c : Nat) (rs : List Rl) (hn : n = rs.length) (hs : n ≤ 300) (hz : Rules w a rs) :
    Calls Tryz.prog 152 #[.slice a n c] w (ClonedRules w rs) := by
  obtain ⟨i0, hi, hz0, hz1, hz2⟩ := info_parts Tryz.infoRule
  have q : ∀ (w : World) (a : Option Addr) (n c n' c' : Nat), (binOp .eql 22 (.slice a n c) (.slice none n' c')).run Tryz.prog w = .ok (.bool a.isNone) w := fun w a n c n' c' => Lib.run_eql_slice_nil w _ _ a n c n' c' Tryz.underlying22
  have u : ∀ w, Sem.run Tryz.prog (underlying 22) w = .ok (TypeDesc.slice 43) w := run_underlying Tryz.underlying22
  cases a with
  | none =>
    obtain rfl := rules_none hz
    obtain rfl : n = 0 := by simpa using hn
    clear hz hn
    go_enter Tryz.func152, Tryz.ntmps152
    go_wp2
    go_ret
    exact ⟨none, 0, rfl, World.ownsRow_nil _ _ _ _, Chg.refl _ _⟩
  | some b =>
    have hl : (rulesCells rs).length = n * 2 := by rw [rulesCells_len, hn]
    have h1 : ∀ u ∈ rulesCells rs, u.oneCell' = true := by
      intro u hu
      obtain ⟨z, _, hz⟩ := List.mem_flatMap.1 hu
      simp only [Rl.cells, List.mem_cons, List.not_mem_nil, or_false] at hz
      rcases hz with rfl | rfl <;> rfl
    have h2 : 0 + n ≤ maxLen ∧ (0 + n) * 24 ≤ 140737488355328 := by simp only [maxLen]; omega
    have h3 : ∀ j u, (rulesCells rs)[j]? = some u → (w.alloc (.cells #[] 43)).cell? (b.add j) = some u := fun j u hj => Lib.cell?_alloc_some _ (rules_some hz j u hj)
    have HN := Lib.hid (And.intro hl (And.intro h3 (And.intro h1 (And.intro h2 hn))))
    clear hl h1 h2 h3 hz hn
    go_enter Tryz.func152, Tryz.ntmps152
    go_wp2_with (at_builtin; refine wpList_append_own_at _ rfl _ _ 22 rfl w.heap.size 43 i0 _ 2 24 Tryz.underlying22 hi hz0 hz1 hz2 rfl (by decide) _ _ _ rfl (World.ownsRow_made w #[] 0 (Nat.le_refl _) (Nat.zero_le _) rfl) b n c (rulesCells rs) rfl HN.out.1 HN.out.2.1 HN.out.2.2.1 HN.out.2.2.2.1.1 HN.out.2.2.2.1.2 (by simp) ?_; intro v' w1 hown hgrow hnil hblk; obtain ⟨a', c', rfl⟩ := ownsRow_slice hown; have HW := Lib.hid (And.intro hown hgrow); clear hown hgrow hnil hblk)
    go_ret
    obtain ⟨hl, h3, h1, h2, hn⟩ := HN.out
    obtain ⟨hr, hg⟩ := HW.out
    subst hn
    simp only [Nat.zero_add] at hr ⊢
    exact ⟨a', c', rfl, by simpa [FreshRules] using hr, ((Chg.refl [] w).alloc _).grown hg (fun k hk => .inr (by have h0 : some w.heap.size = some k := hk; simp at h0; omega))⟩
end Go.Proofs.YtibgfgfmljhimaaGreat
set_option linter.unusedVariables false
set_option linter.unusedSimpArgs false
namespace Go.Proofs.YtibgfgfmljhimaaGreat
open Go.RowKit Go.MapKept Go.Shelf
attribute [local go_sem] Oper.semAt_some

/-- What lay below n₀, and in block Bl, lies as it lay. -/
structure Keeps (n₀ Bl : Nat) (A B : World) : Prop where
  size : A.heap.size ≤ B.heap.size
  old : ∀ k o, k < n₀ ∨ k = Bl → A.heap[k]? = some o → B.heap[k]? = some o
theorem Keeps.refl (n₀ Bl : Nat) (A : World) : Keeps n₀ Bl A A := ⟨Nat.le_refl _, fun _ _ _ h => h⟩
theorem Keeps.trans {n₀ Bl : Nat} {A B C : World} (h : Keeps n₀ Bl A B) (k : Keeps n₀ Bl B C) : Keeps n₀ Bl A C := ⟨Nat.le_trans h.size k.size, fun j o hj ho => k.old j o hj (h.old j o hj ho)⟩
theorem Keeps.of_chg {n₀ Bl : Nat} {S : List Nat} {A B : World} (h : Chg S A B) (hS : ∀ k ∈ S, n₀ ≤ k ∧ k ≠ Bl) : Keeps n₀ Bl A B :=
  ⟨h.size, fun k o hk ho => h.heap ho (fun hm => by have := hS k hm; rcases hk with h | h <;> omega)⟩
theorem Keeps.of_turn {n₀ Bl B' : Nat} {A B : World} (h : Turn B' A B) (hn : n₀ ≤ B') (hB : Bl < B') : Keeps n₀ Bl A B := by
  obtain ⟨l, hl, hc⟩ := h.chg
  exact .of_chg hc (fun k hk => by simp only [List.mem_singleton] at hk; omega)
theorem Keeps.cell {n₀ Bl : Nat} {A B : World} (h : Keeps n₀ Bl A B) {p : Addr} {v : Value} (hc : A.cell? p = some v) (hp : p.block < n₀ ∨ p.block = Bl) : B.cell? p = some v := by
  obtain ⟨o, ho, _⟩ := cells_of_cell hc
  exact (World.cell?_of_block ((h.old _ _ hp ho).trans ho.symm)).trans hc
theorem kp_old {A B : World} (hs : A.heap.size ≤ B.heap.size) (h : ∀ k, k < A.heap.size → B.heap[k]? = A.heap[k]?) : Kp A B :=
  ⟨hs, fun p v hc => (World.cell?_of_block (h _ (World.block_lt_of_cell? _ _ hc))).trans hc⟩

def Cp.own (p : Cp) : Option Nat := (Value.slice p.2.1 p.1.kids.length p.2.2).ownBlock
/-- What a round is told of the node that it is handed. -/
def CopyX (n₀ : Nat) (ns : List Nd) (pre : List Cp) (p : Cp) (W : World) : Prop :=
  (pre.length < ns.length ∧ ns[pre.length]? = some p.1) ∧ FreshInts n₀ W p.2.1 p.2.2 p.1.kids ∧ (∀ q ∈ pre, ∀ i j, q.own = some i → p.own = some j → i < j)
def encCp (p : Cp) : Array Value := #[.agg (p.1.cells p.2.1 p.1.kids.length p.2.2)]

set_option maxRecDepth 100000 in
set_option maxHeartbeats 4000000 in
theorem copies_gives (w00 w : World) (Bl : Nat) (a : Option Addr) (n c : Nat) (ns : List Nd) (hn : n = ns.length) (hs : n ≤ 300) (hk : ∀ x ∈ ns, x.kids.length ≤ 300) (hN : Nodes w00 a ns)
    (hsz : w00.heap.size ≤ w.heap.size) (hold : ∀ k, k < w00.heap.size → w.heap[k]? = w00.heap[k]?) (hBl : w.heap[Bl]? = some (.cells #[.slice a n c] 23 (0, 0))) :
    Gives Tryz.prog 182 #[.pointer (some ⟨Bl, 0, none⟩)] encCp (CopyX w00.heap.size ns) (fun _ _ => Keeps w00.heap.size Bl) (fun xs => xs.length = ns.length) (fun _ => True) w := by
  intro m l J Jx W hW hJ hJx hY h0
  have hBW := hW.heap hBl (by simp)
  have hBlt := lt_of_block hBW
  have hkW : Kp w00 W := kp_old (Nat.le_trans hsz hW.size) (fun k hk => (hW.block k (by omega) (by simp)).trans (hold k hk))
  have hszW := Nat.le_trans hsz hW.size
  have H := Lib.hid (And.intro hn (And.intro hN (And.intro hk (And.intro hkW (And.intro hBW (And.intro hszW hBlt))))))
  have hb0 := cells1 hBW
  show CallsIn Fence.wide (m + 1) Tryz.prog 182 #[.func (.yield l) #[] #[], .pointer (some ⟨Bl, 0, none⟩)] W _
  clear hn hN hk hkW hBW hszW hW hsz hold hBl hBlt
  refine callsIn_of_wp Tryz.func182 rfl trivial ?_ rfl
  simp only [Tryz.ntmps182, List.size_toArray, List.length_cons, List.length_nil, Nat.reduceAdd, Nat.reduceSub, Array.replicate_succ, Array.replicate_zero, List.push_toArray, List.append_toArray, List.nil_append, List.cons_append]
  gi_wp2
  gi_loopg [7] n (fun d iv wr => ∃ (k : Nat) (pre : List Cp), d = n - k ∧ k ≤ n ∧ iv = .int .i64 k ∧ Hid (pre.length = k ∧ J pre wr ∧ Keeps w00.heap.size Bl W wr ∧ ∀ q ∈ pre, ∀ i, q.own = some i → i < wr.heap.size))
  case atStart => exact ⟨0, [], rfl, Nat.zero_le _, rfl, Lib.hid ⟨rfl, h0, Keeps.refl _ _ _, by simp⟩⟩
  case round =>
    obtain ⟨k, pre, rfl, hk, rfl, HI⟩ := hrel
    obtain ⟨wq, rfl⟩ : ∃ wq, wq = wr := ⟨_, rfl⟩
    by_cases hlt : k < n
    · have hk' : k < ns.length := by have := H.out.1; omega
      have hkq : Kp w00 wq := ⟨Nat.le_trans H.out.2.2.2.1.1 HI.out.2.2.1.size, fun p v hc => by
        have h1 := World.block_lt_of_cell? _ _ hc
        exact HI.out.2.2.1.cell (H.out.2.2.2.1.2 _ _ hc) (.inl h1)⟩
      obtain ⟨b, o, ak, nk, ck, rfl, hx⟩ := H.out.2.1.keep hkq k hk'
      have hkl := H.out.2.2.1 _ (List.getElem_mem hk')
      obtain ⟨x, hxe⟩ : ∃ x, x = ns[k] := ⟨_, rfl⟩
      rw [← hxe] at hx hkl
      have hbk := World.block_lt_of_cell? _ _ hx.k
      simp only at hbk
      obtain ⟨h0, h1, h2, h3, h4, h5, h6, h7, h8, q1, q2, q3, q4⟩ := hx
      have HR := Lib.hid (And.intro hxe (And.intro hkl (And.intro q1 (And.intro q4 hkq))))
      clear q1 q2 q3 q4 hkl hxe hkq
      gi_wp2_with fail
      have hints := HR.out.2.2.2.1.keep ((Chg.refl [] wq).alloc (.cells #[.int .i64 x.k, .int .u64 x.c0, .int .u64 x.c1, .int .u64 x.c2, .int .u64 x.c3, .string x.s, .int .i64 x.r, .int .i64 x.l, .slice ak nk ck] 53)).kp
      refine ⟨trivial, (callsIn_wide.2 (CloneInts_any _ ak nk ck x.kids HR.out.2.2.1 (by have := HR.out.2.1; have := HR.out.2.2.1; omega) hints)).mono ?_⟩
      clear hints
      rintro e w2 ⟨a', c', rfl, hf, hc2⟩
      have hb2 := hc2.heap (heap_alloc_same _ _) (by simp)
      have hs2 := hc2.size
      simp only [World.size_alloc] at hs2 hf
      have hcw2 := ((Chg.refl [] wq).alloc _).tr0 hc2
      clear hc2
      have hb3 := heap_setCell_same hb2 8 (.slice a' x.kids.length c')
      have hc3 := hcw2.setCell (p := ⟨wq.heap.size, 8, none⟩) (.inr (Nat.le_refl _)) (.slice a' x.kids.length c')
      have hf3 : FreshInts w00.heap.size (w2.setCell ⟨wq.heap.size, 8, none⟩ (.slice a' x.kids.length c')) a' c' x.kids := by
        refine row_base (((Chg.refl [wq.heap.size] w2).setCell (p := ⟨wq.heap.size, 8, none⟩) (.inl (by simp)) _).row hf ?_) ?_
        · intro j hj hm
          have := (row_beyond hf hj).1
          simp at hm
          omega
        · have := HR.out.2.2.2.2.1; omega
      have hX : CopyX w00.heap.size ns pre (x, a', c') (w2.setCell ⟨wq.heap.size, 8, none⟩ (.slice a' x.kids.length c')) := by
        refine ⟨⟨by rw [HI.out.1]; exact hk', by rw [HI.out.1]; simp [HR.out.1, hk']⟩, hf3, fun q hq i j hi hj => ?_⟩
        have h1 := HI.out.2.2.2 q hq i hi
        have h2 := (row_beyond hf hj).1
        omega
      have hown : ∀ q ∈ pre ++ [(x, a', c')], ∀ i, q.own = some i → i < (w2.setCell ⟨wq.heap.size, 8, none⟩ (.slice a' x.kids.length c')).heap.size := by
        intro q hq i hi
        rcases List.mem_append.1 hq with hq | hq
        · have := HI.out.2.2.2 q hq i hi; have := hc3.size; omega
        · simp only [List.mem_singleton] at hq
          subst hq
          exact (row_beyond hf3 hi).2.1
      obtain ⟨fn, tmps, assign, body, hy, hR⟩ := hY pre (x, a', c') _ (hJ _ _ _ HI.out.2.1 hc3) hX
      simp only [encCp, Nd.cells] at hy
      have HN := Lib.hid (And.intro hb3 (And.intro hc3 hown))
      obtain ⟨x0, x1, x2, x3, x4, x5, x6, x7, x8⟩ := cells9 hb2
      have f8 := free_of_cells hb2 8
      clear hb2 hf hf3 hX hown hb3 hc3 hcw2
      obtain ⟨w3, e3⟩ : ∃ w3, w3 = w2.setCell ⟨wq.heap.size, 8, none⟩ (.slice a' x.kids.length c') := ⟨_, rfl⟩
      rw [← e3] at hy hR HN
      have hb3 := HN.out.1
      simp at hb3
      obtain ⟨y0, y1, y2, y3, y4, y5, y6, y7, y8⟩ := cells9 hb3
      clear hb3
      gi_wp2
      rw [← e3, hy, Oper.uponIn_round]
      refine ⟨fun h => by simp [Fence.wide] at h, hR.mono ?_⟩
      rintro e w4 (⟨rfl, hJ4, hk4⟩ | ⟨rfl, hJx4⟩)
      · gi_wp2
        gi_roundg (n - (k + 1))
        case measure => omega
        case rel =>
          refine ⟨k + 1, pre ++ [(x, a', c')], rfl, by omega, by go_num, Lib.hid ⟨by simp [HI.out.1], hJ4, ?_, ?_⟩⟩
          · exact (HI.out.2.2.1.trans (.of_chg HN.out.2.1 (by simp))).trans hk4
          · intro q hq i hi
            have := HN.out.2.2 q hq i hi
            have := hk4.size
            omega
      · gi_wp2
        refine bodyPost_ret (results_none rfl _ _ _) rfl ?_
        exact ⟨⟨_, rfl⟩, .inr ⟨_, trivial, hJx4⟩⟩
    · obtain rfl : k = n := by omega
      gi_wp2
      go_end0
      exact ⟨⟨_, rfl⟩, .inl ⟨pre, by rw [HI.out.1, H.out.1], HI.out.2.1⟩⟩

set_option maxHeartbeats 1000000 in
theorem copies_any (w : World) (a : Option Addr) (n c : Nat) :
    Calls Tryz.prog 153 #[.slice a n c] w fun e w' => e = .returned (.func (.func 182) #[] #[.pointer (some ⟨w.heap.size, 0, none⟩)]) ∧ w' = w.alloc (.cells #[.slice a n c] 23) := by
  go_enter Tryz.func153, Tryz.ntmps153
  go_wp2
  go_ret
  exact ⟨rfl, rfl⟩
end Go.Proofs.YtibgfgfmljhimaaGreat
set_option linter.unusedVariables false
set_option linter.unusedSimpArgs false
namespace Go.Proofs.YtibgfgfmljhimaaGreat
open Go.RowKit Go.MapKept Go.Shelf

theorem chain_next {g : Gr} {t : List (Nat × Nat)} {k x e : Nat} (hk : k < g.rules.length) (h : chainT g t (g.rules.drop k) k x = some e) :
    ruleI g.rules g.rules[k].name = (k : Int) ∧ g.rules[k].body = (x : Int) ∧ ∃ z h, t[x]? = some (z, h) ∧ h ≤ 16 ∧ chainT g t (g.rules.drop (k + 1)) (k + 1) (x + z) = some e := by
  rw [chainT_at hk] at h
  split at h
  · rename_i hc
    simp only [Bool.and_eq_true, decide_eq_true_eq] at hc
    split at h
    · cases h
    · rename_i z hh hz
      split at h
      · rename_i hle
        exact ⟨hc.1.2, hc.2, z, hh, hz, hle, h⟩
      · cases h
  · cases h
theorem whole_chain {g : Gr} {t : List (Nat × Nat)} (ht : wholeT g = some t) : chainT g t g.rules 0 0 = some g.nodes.length := by
  unfold wholeT at ht
  split at ht
  · split at ht
    · cases ht
    · rename_i t' ht'
      split at ht
      · rename_i hc
        simp only [Option.some.injEq] at ht
        subst ht
        simpa using hc
      · cases ht
  · cases ht
theorem chain_le {g : Gr} {t : List (Nat × Nat)} (ht : tab g.nodes = some t) {x z h : Nat} (hz : t[x]? = some (z, h)) : x < g.nodes.length ∧ 1 ≤ z ∧ x + z ≤ g.nodes.length := by
  have hxl : x < g.nodes.length := by
    have h3 := (List.getElem?_eq_some_iff.1 hz).1
    have := (tab_ok ht).1
    omega
  obtain ⟨z', h', hz', h1, hle, _⟩ := tabOk_le (tab_ok ht) (Nat.zero_le x) hxl
  rw [Nat.sub_zero, hz] at hz'
  cases hz'
  exact ⟨hxl, h1, hle⟩

end Go.Proofs.YtibgfgfmljhimaaGreat
set_option linter.unusedVariables false
set_option linter.unusedSimpArgs false
namespace Go.Proofs.YtibgfgfmljhimaaGreat
open Go.RowKit Go.MapKept Go.Shelf

abbrev Wk := Int × Cp
/-- What a round is told. -/
def WalkX (n₀ N z : Nat) (ns : List Nd) (pre : List Wk) (x : Wk) (W : World) : Prop :=
  (pre.length < z ∧ x.1 = (N : Int) + pre.length ∧ ns[N + pre.length]? = some x.2.1) ∧ FreshInts n₀ W x.2.2.1 x.2.2.2 x.2.1.kids
theorem WalkX.stays (B n₀ N z : Nat) (ns : List Nd) (pre : List Wk) (x : Wk) : Stays B (WalkX n₀ N z ns pre x) := (Stays.pure _).and (Stays.row B _ _ _ _ _ _)

section
attribute [local go_sem] Oper.semAt_some
end

end Go.Proofs.YtibgfgfmljhimaaGreat

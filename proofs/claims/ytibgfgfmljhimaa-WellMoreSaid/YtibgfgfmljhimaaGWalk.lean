/-
  gram.Walk: each round is handed a node's next node, its kids in memory of their own.
  Conditions: the grammar reads as data and is small; the rounds keep what lay ahead.
-/
import Derived.Test.YtibgfgfmljhimaaGCps
import Derived.Test.YtibgfgfmljhimaaGRight
import Derived.Test.YtibgfgfmljhimaaG06A
import Derived.Test.YtibgfgfmljhimaaG06T
set_option linter.unusedVariables false
set_option linter.unusedSimpArgs false
namespace Go.Proofs.Ytibgfgfmljhimaa
open Go.RowKit Go.MapKept Go.Shelf

/-- A node's size stays within the row. -/
theorem sizeG_in (g : Gr) (n : Int) : ∃ z : Nat, sizeG g n = z ∧ (0 < z → n = (n.toNat : Int) ∧ n.toNat + z ≤ g.nodes.length ∧ rightB g = true) := by
  unfold sizeG
  cases h : wholeT g with
  | none => exact ⟨0, rfl, fun h => by omega⟩
  | some t =>
    by_cases hn : 0 ≤ n ∧ n < g.nodes.length
    · simp only [if_pos hn]
      obtain ⟨hr, ht⟩ := wholeT_some h
      obtain ⟨z, hh, h1, h2, h3, _⟩ := tabOk_le (tab_ok ht) (Nat.zero_le n.toNat) (by omega)
      rw [Nat.sub_zero] at h1
      rw [h1]
      exact ⟨z, rfl, fun _ => ⟨by omega, h3, hr⟩⟩
    · simp only [if_neg hn]
      exact ⟨0, rfl, fun h => by omega⟩

abbrev Wk := Int × Cp
def encWk (x : Wk) : Array Value := #[.int .i64 x.1, .agg (x.2.1.cells x.2.2.1 x.2.1.kids.length x.2.2.2)]
/-- What a round is told. -/
def WalkX (n₀ N z : Nat) (ns : List Nd) (pre : List Wk) (x : Wk) (W : World) : Prop :=
  (pre.length < z ∧ x.1 = (N : Int) + pre.length ∧ ns[N + pre.length]? = some x.2.1) ∧ FreshInts n₀ W x.2.2.1 x.2.2.2 x.2.1.kids
theorem WalkX.stays (B n₀ N z : Nat) (ns : List Nd) (pre : List Wk) (x : Wk) : Stays B (WalkX n₀ N z ns pre x) := (Stays.pure _).and (Stays.row B _ _ _ _ _ _)

section
attribute [local go_sem] Oper.semAt_some
set_option maxRecDepth 100000 in
set_option maxHeartbeats 4000000 in
theorem Walk_gives (w00 w : World) (Bg Bn : Nat) (a1 : Option Addr) (n1 c1 : Nat) (a2 : Option Addr) (n2 c2 : Nat) (g : Gr) (n : Int) (z : Nat) (hz : sizeG g n = z) (hzn : 0 < z → n = (n.toNat : Int) ∧ n.toNat + z ≤ g.nodes.length) (hg : GramAt w00 a1 n1 c1 a2 n2 c2 g) (hs : n2 ≤ 300) (hk : ∀ x ∈ g.nodes, x.kids.length ≤ 300)
    (hsz : w00.heap.size ≤ w.heap.size) (hold : ∀ k, k < w00.heap.size → w.heap[k]? = w00.heap[k]?) (hBg : w.heap[Bg]? = some (.cells #[.slice a1 n1 c1, .slice a2 n2 c2] 25 (0, 0))) (hBn : w.heap[Bn]? = some (.cells #[.int .i64 n] 3 (0, 0))) :
    Gives Try.prog 99 #[.pointer (some ⟨Bg, 0, none⟩), .pointer (some ⟨Bn, 0, none⟩)] encWk (WalkX w00.heap.size n.toNat z g.nodes) (fun _ _ A B => Keeps w00.heap.size Bg A B ∧ Keeps w00.heap.size Bn A B) (fun xs => xs.length = z) (fun pre => pre.length ≤ z) w := by
  intro m l J Jx W hW hJ hJx hY h0
  have hGW := hW.heap hBg (by simp)
  have hNW := hW.heap hBn (by simp)
  have hkW : Kp w00 W := kp_old (Nat.le_trans hsz hW.size) (fun k hk => (hW.block k (by omega) (by simp)).trans (hold k hk))
  have hszW := Nat.le_trans hsz hW.size
  have hlen := hg.e2
  have H := Lib.hid (And.intro hg (And.intro hz (And.intro hzn (And.intro hk (And.intro hkW (And.intro hGW (And.intro hNW (And.intro hszW hlen))))))))
  obtain ⟨x0, x1⟩ := cells2 hGW
  have y0 := cells1 hNW
  show CallsIn Fence.wide (m + 1) Try.prog 99 #[.func (.yield l) #[] #[], .pointer (some ⟨Bg, 0, none⟩), .pointer (some ⟨Bn, 0, none⟩)] W _
  clear hg hz hzn hk hkW hGW hNW hszW hW hsz hold hBg hBn hlen
  refine callsIn_of_wp Try.func99 rfl trivial ?_ rfl
  simp only [Try.ntmps99, List.size_toArray, List.length_cons, List.length_nil, Nat.reduceAdd, Nat.reduceSub, Array.replicate_succ, Array.replicate_zero, List.push_toArray, List.append_toArray, List.nil_append, List.cons_append]
  gi_wp2_with fail
  refine ⟨trivial, (callsIn_wide.2 (Size_any _ a1 n1 c1 a2 n2 c2 g n (H.out.1.keep H.out.2.2.2.2.1))).mono ?_⟩
  rintro e w1 ⟨rfl, hc1⟩
  rw [H.out.2.1]
  have hkW1 := hc1.kp
  have H1 := Lib.hid (And.intro hc1 (And.intro (hc1.heap H.out.2.2.2.2.2.1 (by simp)) (hc1.heap H.out.2.2.2.2.2.2.1 (by simp))))
  clear hc1 hkW1 x0 x1 y0
  have hz3 : z ≤ 300 := by
    by_cases h : 0 < z
    · have := (H.out.2.2.1 h).2; have := H.out.2.2.2.2.2.2.2.2; omega
    · omega
  gi_wp2_with fail
  gi_loopg [9] z (fun d iv wr => ∃ (k : Nat) (pre : List Wk), d = z - k ∧ k ≤ z ∧ iv = .int .i64 k ∧ Hid (pre.length = k ∧ J pre wr ∧ Keeps w00.heap.size Bg w1 wr ∧ Keeps w00.heap.size Bn w1 wr))
  case atStart => exact ⟨0, [], rfl, Nat.zero_le _, rfl, Lib.hid ⟨rfl, hJ _ _ _ h0 H1.out.1, Keeps.refl _ _ _, Keeps.refl _ _ _⟩⟩
  case round =>
    obtain ⟨k, pre, rfl, hk, rfl, HI⟩ := hrel
    obtain ⟨wq, rfl⟩ : ∃ wq, wq = wr := ⟨_, rfl⟩
    by_cases hlt : k < z
    · obtain ⟨N, hN⟩ : ∃ N : Nat, N = n.toNat := ⟨_, rfl⟩
      have hn2 : n = (N : Int) := by rw [hN]; exact (H.out.2.2.1 (by omega)).1
      have hNz : N + z ≤ g.nodes.length := by rw [hN]; exact (H.out.2.2.1 (by omega)).2
      subst hn2
      have hlen := H.out.2.2.2.2.2.2.2.2
      have hk' : N + k < g.nodes.length := by omega
      have hkq : Kp w00 wq := ⟨Nat.le_trans (Nat.le_trans H.out.2.2.2.2.1.1 H1.out.1.size) HI.out.2.2.1.size, fun p v hc => by
        have h1 := World.block_lt_of_cell? _ _ hc
        exact HI.out.2.2.1.cell (H1.out.1.cell (H.out.2.2.2.2.1.2 _ _ hc) (by simp)) (.inl h1)⟩
      obtain ⟨b, o, ak, nk, ck, rfl, hx⟩ := H.out.1.nodes.keep hkq (N + k) hk'
      have hkl := H.out.2.2.2.1 _ (List.getElem_mem hk')
      obtain ⟨x, hxe⟩ : ∃ x, x = g.nodes[N + k] := ⟨_, rfl⟩
      rw [← hxe] at hx hkl
      have hbk := World.block_lt_of_cell? _ _ hx.k
      simp only at hbk
      obtain ⟨h0, h1, h2, h3, h4, h5, h6, h7, h8, q1, q2, q3, q4⟩ := hx
      obtain ⟨g0, g1⟩ := cells2 (HI.out.2.2.1.old _ _ (.inr rfl) H1.out.2.1)
      have m0 := cells1 (HI.out.2.2.2.old _ _ (.inr rfl) H1.out.2.2)
      have hbg := lt_of_block (HI.out.2.2.1.old _ _ (.inr rfl) H1.out.2.1)
      have hbn := lt_of_block (HI.out.2.2.2.old _ _ (.inr rfl) H1.out.2.2)
      have hNk : N + k < n2 := by omega
      have HR := Lib.hid (And.intro hxe (And.intro hkl (And.intro q1 (And.intro q4 (And.intro hkq (And.intro hk' hN))))))
      clear q1 q2 q3 q4 hkl hxe hkq hN hlen
      gi_wp2_with fail
      have hints := HR.out.2.2.2.1.keep ((Chg.refl [] wq).alloc (.cells #[.int .i64 x.k, .int .u64 x.c0, .int .u64 x.c1, .int .u64 x.c2, .int .u64 x.c3, .string x.s, .int .i64 x.r, .int .i64 x.l, .slice ak nk ck] 32)).kp
      refine ⟨trivial, (callsIn_wide.2 (CloneInts_any _ ak nk ck x.kids HR.out.2.2.1 (by have := HR.out.2.1; have := HR.out.2.2.1; omega) hints)).mono ?_⟩
      clear hints
      rintro e w2 ⟨a', c', rfl, hf, hc2⟩
      have hb2 := hc2.heap (heap_alloc_same _ _) (by simp)
      have hs2 := hc2.size
      simp only [World.size_alloc] at hs2 hf
      have hcw2 := ((Chg.refl [] wq).alloc _).tr0 hc2
      clear hc2
      have hb3 := heap_setCell_same hb2 8 (.slice a' x.kids.length c')
      have hc3 := hcw2.setCell (p := ⟨wq.heap.size, 8, none⟩) (.inr (Nat.le_refl _)) (.slice a' x.kids.length c')
      have hf3 : FreshInts w00.heap.size (w2.setCell ⟨wq.heap.size, 8, none⟩ (.slice a' x.kids.length c')) a' c' x.kids := by
        refine row_base (((Chg.refl [wq.heap.size] w2).setCell (p := ⟨wq.heap.size, 8, none⟩) (.inl (by simp)) _).row hf ?_) ?_
        · intro j hj hm
          have := (row_beyond hf hj).1
          simp at hm
          omega
        · have := HR.out.2.2.2.2.1.1; omega
      have hX : WalkX w00.heap.size (Int.toNat ↑N) z g.nodes pre ((N : Int) + k, (x, a', c')) (w2.setCell ⟨wq.heap.size, 8, none⟩ (.slice a' x.kids.length c')) := by
        refine ⟨⟨by rw [HI.out.1]; exact hlt, by rw [HI.out.1]; simp, ?_⟩, hf3⟩
        rw [HI.out.1, Int.toNat_natCast, HR.out.1]
        simp [HR.out.2.2.2.2.2.1]
      obtain ⟨fn, tmps, assign, body, hy, hR⟩ := hY pre ((N : Int) + k, (x, a', c')) _ (hJ _ _ _ HI.out.2.1 hc3) hX
      simp only [encWk, Nd.cells] at hy
      have HN := Lib.hid (And.intro hb3 hc3)
      obtain ⟨x0, x1, x2, x3, x4, x5, x6, x7, x8⟩ := cells9 hb2
      have f8 := free_of_cells hb2 8
      have m3 := hc3.cell m0 (by simp)
      have m2 := hcw2.cell m0 (by simp)
      clear hb2 hf hf3 hX hb3 hc3 hcw2
      obtain ⟨w3, e3⟩ : ∃ w3, w3 = w2.setCell ⟨wq.heap.size, 8, none⟩ (.slice a' x.kids.length c') := ⟨_, rfl⟩
      rw [← e3] at hy hR HN m3
      gi_wp2_with fail
      rw [← e3, hy, Oper.uponIn_round]
      refine ⟨fun h => by simp [Fence.wide] at h, hR.mono ?_⟩
      rintro e w4 (⟨rfl, hJ4, hk4, hk5⟩ | ⟨rfl, hJx4⟩)
      · gi_wp2_with fail
        gi_roundg (z - (k + 1))
        case measure => omega
        case rel =>
          exact ⟨k + 1, pre ++ [((N : Int) + k, (x, a', c'))], rfl, by omega, by go_num, Lib.hid ⟨by simp [HI.out.1], hJ4, (HI.out.2.2.1.trans (.of_chg HN.out.2 (by simp))).trans hk4, (HI.out.2.2.2.trans (.of_chg HN.out.2 (by simp))).trans hk5⟩⟩
      · gi_wp2_with fail
        refine bodyPost_ret (results_none rfl _ _ _) rfl ?_
        exact ⟨⟨_, rfl⟩, .inr ⟨_, by simp [HI.out.1]; omega, hJx4⟩⟩
    · obtain rfl : k = z := by omega
      gi_wp2_with fail
      go_end0
      exact ⟨⟨_, rfl⟩, .inl ⟨pre, HI.out.1, HI.out.2.1⟩⟩
end

set_option maxHeartbeats 1000000 in
theorem Walk_any (w : World) (a1 : Option Addr) (n1 c1 : Nat) (a2 : Option Addr) (n2 c2 : Nat) (n : Int) :
    Calls Try.prog 38 #[.agg #[.slice a1 n1 c1, .slice a2 n2 c2], .int .i64 n] w fun e w' => e = .returned (.func (.func 99) #[] #[.pointer (some ⟨w.heap.size, 0, none⟩), .pointer (some ⟨w.heap.size + 1, 0, none⟩)]) ∧
      w' = (w.alloc (.cells #[.slice a1 n1 c1, .slice a2 n2 c2] 25)).alloc (.cells #[.int .i64 n] 3) := by
  go_enter Try.func38, Try.ntmps38
  go_wp2
  go_ret
  exact ⟨rfl, rfl⟩
end Go.Proofs.Ytibgfgfmljhimaa

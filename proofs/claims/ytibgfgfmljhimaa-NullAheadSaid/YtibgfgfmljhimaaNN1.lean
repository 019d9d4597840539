/-
  Layer 11: how many there are; what a node's Kind says by its kids, as the law asks it.
  Conditions: the grammar reads as data.
-/
import Derived.Test.YtibgfgfmljhimaaNuE
import Derived.Test.YtibgfgfmljhimaaG06A
set_option linter.unusedVariables false
set_option linter.unusedSimpArgs false
namespace Go.Proofs.Ytibgfgfmljhimaa
open Go.RowKit Go.MapKept Go.Shelf

set_option maxRecDepth 100000 in
set_option maxHeartbeats 2000000 in
theorem size11_any (w : World) (a1 : Option Addr) (n1 c1 : Nat) (a2 : Option Addr) (n2 c2 : Nat) (g : Gr) (hg : GramAt w a1 n1 c1 a2 n2 c2 g) (hr : Reach g) :
    Calls Try.prog 41 #[.agg #[.slice a1 n1 c1, .slice a2 n2 c2]] w (SizePost g w) := by
  have hb1 : n1 ≤ 17592186044416 := by rw [hg.e1]; exact hr.1
  have hb2 : n2 ≤ 17592186044416 := by rw [hg.e2]; exact hr.2.1
  have HG := Lib.hid (And.intro hg hr)
  clear hg hr
  go_enter Try.func41, Try.ntmps41
  go_wp2_with fail
  go_loop [3, 4] (fun xv kv => ∃ k m : Nat, k ≤ n2 ∧ kv = .int .i64 k ∧ xv = .int .i64 m ∧ m ≤ 70368744177664 ∧ Hid (m = n1 + n2 + kidsSum (g.nodes.take k))) (fun _ kv => n2 - (intOf kv).toNat)
  case atStart => exact ⟨0, n1 + n2, Nat.zero_le _, rfl, by go_num, by omega, Lib.hid (by simp [kidsSum])⟩
  case round =>
    obtain ⟨k, m, hk, rfl, rfl, hm, hin⟩ := hrel
    by_cases hlt : k < n2
    · have hkl : k < g.nodes.length := by have := HG.out.1.e2; omega
      by_cases hm3 : m ≤ 300
      · obtain ⟨b, o, ak, nk, ck, rfl, hx⟩ := HG.out.1.nodes k hkl
        have h8 := hx.kids
        have hkk : nk ≤ 17592186044416 := by rw [hx.len]; exact HG.out.2.2.2 _ (List.getElem_mem hkl)
        have hb8 := World.block_lt_of_cell? _ _ h8
        simp only at hb8
        have HX := Lib.hid hx.len
        clear hx
        go_wp2
        go_round
        case rel =>
          refine ⟨k + 1, m + nk, by omega, by go_num, by go_num, by omega, Lib.hid ?_⟩
          rw [List.take_succ_eq_append_getElem hkl, kidsSum_snoc, ← HX.out, hin.out]
          omega
        case measure => simp [intOf]; omega
      · go_wp2
        go_ret
        refine ⟨_, rfl, fun hs => ?_, fun _ => by omega, (Chg.refl _ _).alloc _⟩
        exfalso
        have h1 := kidsSum_take_le g.nodes k
        have h2 := hin.out
        have h3 := HG.out.1.e1
        have h4 := HG.out.1.e2
        unfold smallG at hs
        omega
    · obtain rfl : k = n2 := by omega
      go_wp2
      go_ret
      have h2 := hin.out
      have h3 := HG.out.1.e1
      have h4 := HG.out.1.e2
      rw [h4, List.take_length] at h2
      refine ⟨_, rfl, fun hs => ?_, fun hs => ?_, (Chg.refl _ _).alloc _⟩
      · unfold smallG at hs; omega
      · unfold smallG at hs; omega

theorem kids_few {g : Gr} (h : smallG g) : g.rules.length ≤ 300 ∧ g.nodes.length ≤ 300 ∧ ∀ x ∈ g.nodes, x.kids.length ≤ 300 := by
  unfold smallG at h
  refine ⟨by omega, by omega, fun x hx => ?_⟩
  obtain ⟨i, hi, rfl⟩ := List.mem_iff_getElem.1 hx
  have := kids_le_sum g.nodes i hi
  omega

/-! ### Rows of truths -/
def rowB (bs : List Bool) : Obj := .cells (bs.map Value.bool).toArray 4 (0, 0)
theorem Try.infoBool : (Try.prog.info? 4).map (fun i => (i.zero, i.size, i.bytes)) = some (some (.bool false), 1, 1) := by kernel_rfl
theorem run_falses (n : Nat) (hn : n ≤ 1099511627776) (w : World) : (Instr.makeSlice 56 (.int .i64 n) (.int .i64 n)).run Try.prog w = .ok (.slice (some ⟨w.heap.size, 0, none⟩) n n) (w.alloc (rowB (List.replicate n false))) := by
  obtain ⟨i0, hi, hz0, hz1, hz2⟩ := info_parts Try.infoBool
  have h1 := run_make (P := Try.prog) w 56 4 i0 (.bool false) Try.underlying56 hi hz0 .i64 .i64 n n (by omega) (by omega) (by rw [hz2]; omega) (by omega)
  rw [h1]
  simp only [Int.toNat_natCast, hz1, rowB]
  have : madeCells (Value.bool false).cells (n * 1) = (List.map Value.bool (List.replicate n false)).toArray := by
    apply Array.ext
    · simp [madeCells]
    · intro i h1 h2
      simp [madeCells, Value.cells, Nat.mod_one]
  rw [this]
theorem rowB_cell {w : World} {b i : Nat} {bs : List Bool} {x : Bool} (h : w.heap[b]? = some (rowB bs)) (hx : bs[i]? = some x) : w.cell? ⟨b, i, none⟩ = some (.bool x) := by
  rw [cell_of_cells h]
  simp [hx]
theorem rowB_free {w : World} {b : Nat} {bs : List Bool} (h : w.heap[b]? = some (rowB bs)) (i : Nat) : w.frozen? ⟨b, i, none⟩ = false := free_of_cells h i
theorem rowB_set {w : World} {b i : Nat} {bs : List Bool} (x : Bool) (h : w.heap[b]? = some (rowB bs)) : (w.setCell ⟨b, i, none⟩ (.bool x)).heap[b]? = some (rowB (bs.set i x)) := by
  rw [heap_setCell_same h]
  simp [rowB, List.map_set]

/-! ### What a Kind says -/
def kindSay (x : Nd) (C F : Int → Bool) : Bool :=
  if x.k = 2 ∨ x.k = 3 ∨ x.k = 4 then false else if x.k = 6 ∨ x.k = 9 then x.kids.all F else if x.k = 7 then x.kids.any F else if x.k = 5 then C x.r else true
theorem kindSay_may {x : Nd} (h : 1 ≤ x.k ∧ x.k ≤ 12) (C F : Int → Bool) : kindSay x C F = kindMay x C F := by
  unfold kindSay kindMay easyK
  by_cases h2 : x.k = 2 ∨ x.k = 3 ∨ x.k = 4
  · rw [if_pos h2, decide_eq_false (by omega), if_neg (by simp), if_neg (by omega), if_neg (by omega), if_neg (by omega)]
  rw [if_neg h2]
  by_cases h6 : x.k = 6 ∨ x.k = 9
  · rw [if_pos h6, decide_eq_false (by omega), if_neg (by simp), if_pos h6]
  rw [if_neg h6]
  by_cases h7 : x.k = 7
  · rw [if_pos h7, decide_eq_false (by omega), if_neg (by simp), if_neg h6, if_pos h7]
  rw [if_neg h7]
  by_cases h5 : x.k = 5
  · rw [if_pos h5, decide_eq_false (by omega), if_neg (by simp), if_neg h6, if_neg h7, if_pos h5]
  rw [if_neg h5, decide_eq_true (by omega), if_pos rfl]
theorem right_kind {g : Gr} (h : rightB g = true) {n : Nat} (hn : n < g.nodes.length) : 1 ≤ g.nodes[n].k ∧ g.nodes[n].k ≤ 12 := by
  have h1 := right_node h hn
  unfold nodeB nodeN at h1
  repeat' split at h1
  all_goals first | omega | cases h1
def atB (bs : List Bool) (k : Int) : Bool := (bs[k.toNat]?).getD false

set_option maxRecDepth 100000 in
set_option maxHeartbeats 8000000 in
theorem says_any (w : World) (a1 : Option Addr) (n1 c1 : Nat) (a2 : Option Addr) (n2 c2 : Nat) (g : Gr) (hg : GramAt w a1 n1 c1 a2 n2 c2 g) (n : Nat) (hn : n < g.nodes.length) (Bm : Nat) (bs : List Bool) (hm : w.heap[Bm]? = some (rowB bs)) (hbl : bs.length = n2)
    (ra : Option Addr) (rn rc : Nat) (rs : List Int) (hrs : Ints w ra rs) (hrl : rs.length = rn) (hk : ∀ z ∈ g.nodes[n].kids, 0 ≤ z ∧ z < n2) (hc : g.nodes[n].k = 5 → 0 ≤ g.nodes[n].r ∧ g.nodes[n].r < rn) :
    Calls Try.prog 46 #[.agg #[.slice a1 n1 c1, .slice a2 n2 c2], .int .i64 n, .slice (some ⟨Bm, 0, none⟩) n2 n2, .slice ra rn rc] w fun e w' => e = .returned (.bool (kindSay g.nodes[n] (callsL rs) (atB bs))) ∧ Chg [] w w' := by
  obtain ⟨R, hR⟩ : ∃ R, R = kindSay g.nodes[n] (callsL rs) (atB bs) := ⟨_, rfl⟩
  rw [← hR]
  have hn2 : n < n2 := by have := hg.e2; omega
  have hs2 := hg.small.2
  obtain ⟨bn, o, ak, nk, ck, rfl, hx⟩ := hg.nodes n hn
  obtain ⟨x, hxe⟩ : ∃ x, x = g.nodes[n] := ⟨_, rfl⟩
  rw [← hxe] at hx hR hk hc
  have hbn := World.block_lt_of_cell? _ _ hx.k
  simp only at hbn
  obtain ⟨h0, h1, h2, h3, h4, h5, h6, h7, h8, q1, q2, q3, q4⟩ := hx
  have hmax : maxLen ≤ 9223372036854775807 := by simp [maxLen]
  have hnk : nk ≤ 9223372036854775807 := by omega
  have H := Lib.hid (And.intro hR (And.intro hm (And.intro hbl (And.intro hrs (And.intro hrl (And.intro hk (And.intro hc (And.intro q1 q4))))))))
  clear hg hn hxe hR hm hbl hrs hrl hk hc q1 q2 q3 q4 hmax
  go_enter Try.func46, Try.ntmps46
  obtain ⟨g0, g1⟩ := cells2 (heap_alloc_same w (.cells #[.slice a1 n1 c1, .slice (some ⟨bn, o, none⟩) n2 c2] 25))
  go_wp2_with fail
  clear g0 g1
  have hcA := ((Chg.refl [] w).alloc (.cells #[.slice a1 n1 c1, .slice (some ⟨bn, o, none⟩) n2 c2] 25)).alloc (.cells #[.int .i64 x.k, .int .u64 x.c0, .int .u64 x.c1, .int .u64 x.c2, .int .u64 x.c3, .string x.s, .int .i64 x.r, .int .i64 x.l, .slice ak nk ck] 32)
  have hbx := heap_alloc_same (w.alloc (.cells #[.slice a1 n1 c1, .slice (some ⟨bn, o, none⟩) n2 c2] 25)) (.cells #[.int .i64 x.k, .int .u64 x.c0, .int .u64 x.c1, .int .u64 x.c2, .int .u64 x.c3, .string x.s, .int .i64 x.r, .int .i64 x.l, .slice ak nk ck] 32)
  rw [World.size_alloc] at hbx
  obtain ⟨w1, e1⟩ : ∃ w1, w1 = (w.alloc (.cells #[.slice a1 n1 c1, .slice (some ⟨bn, o, none⟩) n2 c2] 25)).alloc (.cells #[.int .i64 x.k, .int .u64 x.c0, .int .u64 x.c1, .int .u64 x.c2, .int .u64 x.c3, .string x.s, .int .i64 x.r, .int .i64 x.l, .slice ak nk ck] 32) := ⟨_, rfl⟩
  rw [← e1] at hcA hbx ⊢
  clear e1 h0 h1 h2 h3 h4 h5 h6 h7 h8 hbn
  obtain ⟨x0, x1, x2, x3, x4, x5, x6, x7, x8⟩ := cells9 hbx
  have HC := Lib.hid hcA
  clear hcA hbx
  go_loopg [12, 10, 11] nk (fun d iv sv ev wr => ∃ (k : Nat) (s e : Bool), d = nk - k ∧ k ≤ nk ∧ iv = .int .i64 k ∧ sv = .bool s ∧ ev = .bool e ∧ wr = w1 ∧ Hid (s = (x.kids.take k).any (atB bs) ∧ e = (x.kids.take k).all (atB bs)))
  case atStart => exact ⟨0, false, true, rfl, Nat.zero_le _, rfl, rfl, rfl, rfl, Lib.hid ⟨rfl, rfl⟩⟩
  case round =>
    obtain ⟨k, s, e, rfl, hk, rfl, rfl, rfl, rfl, hin⟩ := hrel
    by_cases hlt : k < nk
    · have hkx : k < x.kids.length := by have := H.out.2.2.2.2.2.2.2.1; omega
      obtain ⟨bx, ox, rfl, hz⟩ := H.out.2.2.2.2.2.2.2.2 k hkx
      have hz := HC.out.kp.2 _ _ hz
      obtain ⟨hz0, hz1⟩ := H.out.2.2.2.2.2.1 _ (List.getElem_mem hkx)
      obtain ⟨q, hq⟩ : ∃ q : Nat, x.kids[k] = q := ⟨x.kids[k].toNat, by omega⟩
      rw [hq] at hz hz1
      have hqn : q < n2 := by omega
      obtain ⟨u, hu⟩ : ∃ u, bs[q]? = some u := ⟨_, List.getElem?_eq_getElem (by have := H.out.2.2.1; omega)⟩
      have hcu := HC.out.kp.2 _ _ (rowB_cell H.out.2.1 hu)
      have hat : atB bs x.kids[k] = u := by rw [hq]; simp [atB, hu]
      have htake : x.kids.take (k + 1) = x.kids.take k ++ [x.kids[k]] := List.take_succ_eq_append_getElem hkx
      have HR := Lib.hid (And.intro hat htake)
      clear hat htake hz0 hz1 hq hu
      cases s <;> cases e
      all_goals go_wp2_with fail
      all_goals go_roundg (nk - (k + 1))
      case measure => omega
      case measure => omega
      case measure => omega
      case measure => omega
      all_goals
        refine ⟨k + 1, _, _, rfl, by omega, by go_num, rfl, rfl, rfl, Lib.hid ⟨?_, ?_⟩⟩
        · rw [HR.out.2, List.any_append, ← hin.out.1]; simp [HR.out.1]
        · rw [HR.out.2, List.all_append, ← hin.out.2]; simp [HR.out.1]
    · obtain rfl : k = nk := by omega
      have hs : s = x.kids.any (atB bs) := by rw [hin.out.1, H.out.2.2.2.2.2.2.2.1, List.take_length]
      have he : e = x.kids.all (atB bs) := by rw [hin.out.2, H.out.2.2.2.2.2.2.2.1, List.take_length]
      have HV := Lib.hid (And.intro hs he)
      clear hs he
      by_cases e2 : x.k = 2
      · go_wp2_with fail
        go_ret
        exact ⟨ret_bool (by rw [H.out.1]; simp [kindSay, e2]), HC.out⟩
      have b2 : (x.k == 2) = false := by simp [e2]
      by_cases e3 : x.k = 3
      · go_wp2_with fail
        go_ret
        exact ⟨ret_bool (by rw [H.out.1]; simp [kindSay, e3]), HC.out⟩
      have b3 : (x.k == 3) = false := by simp [e3]
      by_cases e4 : x.k = 4
      · go_wp2_with fail
        go_ret
        exact ⟨ret_bool (by rw [H.out.1]; simp [kindSay, e4]), HC.out⟩
      have b4 : (x.k == 4) = false := by simp [e4]
      by_cases e6 : x.k = 6
      · go_wp2_with fail
        go_ret
        exact ⟨ret_bool (by rw [H.out.1, HV.out.2]; simp [kindSay, e6]), HC.out⟩
      have b6 : (x.k == 6) = false := by simp [e6]
      by_cases e9 : x.k = 9
      · go_wp2_with fail
        go_ret
        exact ⟨ret_bool (by rw [H.out.1, HV.out.2]; simp [kindSay, e9]), HC.out⟩
      have b9 : (x.k == 9) = false := by simp [e9]
      by_cases e7 : x.k = 7
      · go_wp2_with fail
        go_ret
        exact ⟨ret_bool (by rw [H.out.1, HV.out.1]; simp [kindSay, e7]), HC.out⟩
      have b7 : (x.k == 7) = false := by simp [e7]
      by_cases e5 : x.k = 5
      · obtain ⟨hr0, hr1⟩ := H.out.2.2.2.2.2.2.1 e5
        obtain ⟨q, hq⟩ : ∃ q : Nat, x.r = q := ⟨x.r.toNat, by omega⟩
        have hql : q < rs.length := by have := H.out.2.2.2.2.1; omega
        obtain ⟨br, orr, rfl, hz⟩ := H.out.2.2.2.1 q hql
        replace hz := HC.out.kp.2 _ _ hz
        obtain ⟨z, hzz⟩ : ∃ z, z = rs[q] := ⟨_, rfl⟩
        rw [← hzz] at hz
        have hqn : q < rn := by have := H.out.2.2.2.2.1; omega
        rw [hq] at x6
        have hzs : callsL rs x.r = decide (0 < z) := by simp [callsL, hq, List.getElem?_eq_getElem hql, hzz]
        have HS := Lib.hid hzs
        clear hr0 hr1 hq hql hzz hzs
        go_wp2_with fail
        go_ret
        exact ⟨ret_bool (by rw [H.out.1]; simp [kindSay, e5, HS.out]), HC.out⟩
      have b5 : (x.k == 5) = false := by simp [e5]
      go_wp2_with fail
      go_ret
      exact ⟨ret_bool (by rw [H.out.1]; simp [kindSay, e2, e3, e4, e5, e6, e7, e9]), HC.out⟩
end Go.Proofs.Ytibgfgfmljhimaa

/-
 Rows of numbers joined to one (slices.Concat), found (slices.ContainsFunc).
 Conditions: the rows read as data; they are not too long.
-/
import Derived.Test.YtlklmpjakeedcaaGreatDoorSEnSo3
import Derived.Lib.AppendZerosOnto
import Derived.Lib.Walk
import Derived.Lib.SliceRun
set_option linter.unusedVariables false
set_option linter.unusedSimpArgs false
set_option linter.unnecessarySimpa false
namespace Go.Proofs.YtlklmpjakeedcaaGreatDoor
open Go.RowKit Go.MapKept Go.Shelf

theorem take_zero_own {w : World} {B g G : Nat} {cur : Array Value} (h : w.heap[g]? = some (.cells cur 3 (0, 0))) (hB : B ≤ g) (hc : cur.size = G) (hm : G ≤ maxLen) : w.ownsRow B 3 1 (.slice (some ⟨g, 0, none⟩) 0 G) 0 [] :=
 ⟨rfl, .inr ⟨g, G, cur, rfl, hB, h, Nat.zero_le _, hm, by rw [hc, Nat.mul_one], by simp⟩⟩
def NilRow (w : World) (n : Nat) (e : Ending) (w' : World) : Prop := ∃ a c, e = .returned (.slice a 0 c) ∧ w'.ownsRow w.heap.size 3 1 (.slice a 0 c) 0 [] ∧ (n = 0 → a = none ∧ c = 0) ∧ Chg [] w w'

set_option maxRecDepth 100000 in
set_option maxHeartbeats 4000000 in
theorem growNil_any (w : World) (n : Nat) (hn : n ≤ 1000000) :
  Calls Tryz.prog 71 #[.slice none 0 0, .int .i64 n] w (NilRow w n) := by
 obtain ⟨i0, hi, hz0, hz1, hz2⟩ := info_parts Tryz.infoInt
 by_cases h0 : n = 0
 ·subst h0
  go_enter Tryz.func71, Tryz.ntmps71
  go_wp2_with fail
  go_ret
  exact ⟨none, 0, rfl, World.ownsRow_nil _ _ _ _, fun _ => ⟨rfl, rfl⟩, Chg.refl _ _⟩
 ·obtain ⟨G, hG⟩ : ∃ G, G = grownCap w n 0 3 := ⟨_, rfl⟩
  have hGn : n ≤ G := by rw [hG]; exact grownCap_ge w _ _ _
  have hGm : G ≤ maxLen := by rw [hG]; exact grownCap_le_maxLen w n 0 _ (by unfold maxLen; omega)
  obtain ⟨cur, hcur⟩ : ∃ cur : Array Value, cur = (([] : List Value).toArray ++ Builtin.zeroCells (Value.int .i64 0).cells n ++ Builtin.zeroCells (Value.int .i64 0).cells (G - n)) := ⟨_, rfl⟩
  have hcs : cur.size = G := by
   rw [hcur]
   simp [size_zeroCells, Value.cells]
   omega
  have hrz : ∀ ty, (Builtin.append_ #[34, 3] ty #[.slice none 0 0, .int .i64 n]).run Tryz.prog w = .ok (.slice (some ⟨w.heap.size, 0, none⟩) n G) (w.drew.alloc (.cells cur 3)) := fun ty => by
   have h := Lib.run_append_grow_zeros w 34 3 ty 3 i0 (.int .i64 0) .i64 .i64 Tryz.underlying34 Tryz.underlying3 hi hz0 none 0 0 [] (run_firstCells_none w.drew i0.size 0 0 0) n (by omega) (by rw [hz1]; decide) (by omega) (by omega) (by rw [hz2]; omega) (growslice_fits (by omega) (by rw [hz2]; omega))
   simp only [Nat.zero_add] at h
   rw [← hG, ← hcur] at h
   exact h
  have hGm2 : G ≤ 9223372036854775807 := by unfold maxLen at hGm; omega
  have HG := Lib.hid (And.intro hcs hGm)
  clear hG hcur hcs hGm
  go_enter Tryz.func71, Tryz.ntmps71
  go_wp2_with (at_builtin; refine Lib.wpList_append_run _ rfl _ _ _ _ rfl _ _ rfl rfl _ _ (hrz _) ?_)
  all_goals
   go_ret
   have hh := heap_alloc_same w.drew (.cells cur 3)
   exact ⟨_, _, rfl, take_zero_own hh (Nat.le_refl _) HG.out.1 HG.out.2, fun h => absurd h h0, ((Chg.refl [] w).drew).alloc _⟩

def sumQ (VS : List Is) : Nat := (VS.map (fun p => p.2.2.length)).sum
theorem sumQ_take {VS : List Is} {k : Nat} (h : k < VS.length) : sumQ (VS.take (k + 1)) = sumQ (VS.take k) + VS[k].2.2.length := by
 unfold sumQ
 rw [List.take_succ_eq_append_getElem h, List.map_append, List.sum_append]
 rfl
theorem sumQ_le {VS : List Is} (h : ∀ p ∈ VS, p.2.2.length ≤ 64) (hl : VS.length ≤ 64) (k : Nat) : sumQ (VS.take k) ≤ 4096 := by
 have h1 : ∀ L : List Is, (∀ p ∈ L, p.2.2.length ≤ 64) → sumQ L ≤ 64 * L.length := by
  intro L
  induction L with
  | nil => intro _; simp [sumQ]
  | cons p L ih =>
   intro hp
   have h2 := ih (fun q hq => hp q (List.mem_cons_of_mem _ hq))
   have h3 := hp p (by simp)
   unfold sumQ at h2 ⊢
   simp only [List.map_cons, List.sum_cons, List.length_cons]
   omega
 have h2 := h1 (VS.take k) (fun p hp => h p (List.mem_of_mem_take hp))
 have h3 : (VS.take k).length ≤ 64 := by rw [List.length_take]; omega
 omega

set_option maxRecDepth 100000 in
set_option maxHeartbeats 8000000 in
theorem concat_any (w : World) (a : Option Addr) (n c : Nat) (VS : List Is) (hn : n = VS.length) (hs : n ≤ 64) (hl : ∀ p ∈ VS, 1 ≤ p.2.2.length ∧ p.2.2.length ≤ 64) (hx : IntRows w a VS) :
  Calls Tryz.prog 39 #[.slice a n c] w (WithP w (VS.map (·.2.2)).flatten) := by
 obtain ⟨i0, hi0, hz0, hz1, hz2⟩ := info_parts Tryz.infoInt
 have H := Lib.hid (And.intro hn (And.intro hx hl))
 clear hn hx hl
 go_enter Tryz.func39, Tryz.ntmps39
 go_wp2_with fail
 go_loopg [11, 3] n (fun d kv sv wr => ∃ k s : Nat, d = n - k ∧ k ≤ n ∧ kv = .int .i64 k ∧ sv = .int .i64 s ∧ s ≤ 4096 ∧ Hid (s = sumQ (VS.take k) ∧ Chg [] w wr))
 case atStart => exact ⟨0, 0, rfl, Nat.zero_le _, rfl, rfl, by omega, Lib.hid ⟨rfl, Chg.refl _ _⟩⟩
 case round =>
  obtain ⟨k, s, rfl, hk, rfl, rfl, hsl, hin⟩ := hrel
  obtain ⟨wq, rfl⟩ : ∃ z, z = wr := ⟨_, rfl⟩
  by_cases hlt : k < n
  ·have hkl : k < VS.length := by have := H.out.1; omega
   obtain ⟨b, o, rfl, hcell, -, -⟩ := (H.out.2.1.keep hin.out.2.kp) k hkl
   have hm := H.out.2.2 _ (List.getElem_mem hkl)
   have hsum := sumQ_take hkl
   have hle := sumQ_le (fun p hp => (H.out.2.2 p hp).2) (by have := H.out.1; omega) (k + 1)
   obtain ⟨ra, rc, zs, hV⟩ : ∃ ra rc zs, VS[k] = (ra, rc, zs) := ⟨_, _, _, rfl⟩
   rw [hV] at hcell hm hsum
   simp only [Is.cell] at hcell hm hsum
   obtain ⟨m, hmm⟩ : ∃ m, m = zs.length := ⟨_, rfl⟩
   rw [← hmm] at hcell hm hsum
   have hsm : s + m ≤ 4096 := by have := hin.out.1; omega
   have HS := Lib.hid hsum
   clear hkl hV hmm hle hsum
   go_wp2_with fail
   go_roundg (n - (k + 1))
   case measure => omega
   case rel => exact ⟨k + 1, s + m, rfl, by omega, by go_num, by go_num, hsm, Lib.hid ⟨by rw [HS.out, ← hin.out.1], hin.out.2⟩⟩
  ·obtain rfl : k = n := by omega
   go_wp2_with fail
   refine (growNil_any wq s (by omega)).mono ?_
   rintro e w1 ⟨ra, rc, rfl, hr, hnl, hc1⟩
   have hnl2 : VS.length = 0 → ra = none ∧ rc = 0 := fun h => hnl (by rw [hin.out.1, List.eq_nil_of_length_eq_zero h, List.take_nil]; rfl)
   have H1 := Lib.hid (And.intro (row_base hr hin.out.2.size) (And.intro (hin.out.2.tr hc1) hnl2))
   clear hr hc1 hnl hnl2
   go_wp2_with fail
   go_loopg [27, 6] k (fun d kv ov wr => ∃ (j q oc : Nat) (oa : Option Addr), d = k - j ∧ j ≤ k ∧ kv = .int .i64 j ∧ ov = .slice oa q oc ∧ q ≤ 4096 ∧ Hid (q = sumQ (VS.take j) ∧ Chg [] w wr ∧ wr.ownsRow w.heap.size 3 1 (.slice oa q oc) q (((VS.take j).map (·.2.2)).flatten.map (Value.int .i64)) ∧ (VS.length = 0 → oa = none ∧ oc = 0)))
   case atStart => exact ⟨0, 0, rc, ra, rfl, Nat.zero_le _, rfl, rfl, by omega, Lib.hid ⟨rfl, H1.out.2.1, H1.out.1, H1.out.2.2⟩⟩
   case round =>
    obtain ⟨j, q, oc, oa, rfl, hj, rfl, rfl, hq4, hin2⟩ := hrel
    obtain ⟨wp, rfl⟩ : ∃ z, z = wr := ⟨_, rfl⟩
    by_cases hlt2 : j < k
    ·have hkl : j < VS.length := by have := H.out.1; omega
     obtain ⟨b, o, rfl, hcell, hz, -⟩ := (H.out.2.1.keep hin2.out.2.1.kp) j hkl
     have hm := H.out.2.2 _ (List.getElem_mem hkl)
     have hsum := sumQ_take hkl
     have hle := sumQ_le (fun p hp => (H.out.2.2 p hp).2) (by have := H.out.1; omega) (j + 1)
     have htk := List.take_succ_eq_append_getElem hkl
     obtain ⟨sa, sc, zs, hV⟩ : ∃ sa sc zs, VS[j] = (sa, sc, zs) := ⟨_, _, _, rfl⟩
     rw [hV] at hcell hm hsum hz htk
     simp only [Is.cell] at hcell hm hsum hz
     obtain ⟨sb, so, rfl, -⟩ := hz 0 (by omega)
     obtain ⟨m, hmm⟩ : ∃ m, m = zs.length := ⟨_, rfl⟩
     rw [← hmm] at hcell hm hsum
     have hsm : q + m ≤ 4096 := by have := hin2.out.1; omega
     have hl1 : (zs.map (Value.int .i64)).length = m * 1 := by simp [hmm]
     have h1' : ∀ u ∈ zs.map (Value.int .i64), u.oneCell' = true := by
      intro u hu
      obtain ⟨z, _, rfl⟩ := List.mem_map.1 hu
      rfl
     have h2' : q + m ≤ maxLen ∧ (q + m) * 8 ≤ 140737488355328 := by simp only [maxLen]; omega
     have HS := Lib.hid (And.intro hl1 (And.intro (ints_some hz) (And.intro h1' (And.intro h2' (And.intro hin2.out.2.1.size (And.intro hsum htk))))))
     clear hkl hV hmm hle hsum hl1 hz h1' h2' htk
     go_wp2_with (at_builtin; refine wpList_append_own_at _ rfl _ _ 34 rfl w.heap.size 3 i0 _ 1 8 Tryz.underlying34 hi0 hz0 hz1 hz2 rfl (by decide) (.slice oa q oc) q (((VS.take j).map (·.2.2)).flatten.map (Value.int .i64)) rfl hin2.out.2.2.1 ⟨sb, so, none⟩ m sc (zs.map (Value.int .i64)) rfl HS.out.1 HS.out.2.1 HS.out.2.2.1 HS.out.2.2.2.1.1 HS.out.2.2.2.1.2 HS.out.2.2.2.2.1 ?_; intro v' w5 hr5 hg5 hn5 hb5; obtain ⟨a5, c5, rfl⟩ := ownsRow_slice hr5; have HR := Lib.hid (And.intro hr5 hg5); clear hr5 hg5 hn5 hb5)
     go_roundg (k - (j + 1))
     case measure => omega
     case rel =>
      refine ⟨j + 1, q + m, c5, a5, rfl, by omega, by go_num, rfl, hsm, Lib.hid ⟨by rw [HS.out.2.2.2.2.2.1, ← hin2.out.1], hin2.out.2.1.grown HR.out.2 (fun i hi => .inr (row_beyond hin2.out.2.2.1 hi).1), ?_, fun h => absurd h (by have := H.out.1; omega)⟩⟩
      rw [HS.out.2.2.2.2.2.2, List.map_append, List.flatten_append, List.map_append]
      simpa using HR.out.1
    ·obtain rfl : j = k := by omega
     go_wp2_with fail
     go_ret
     have hl : VS.take j = VS := List.take_of_length_le (by have := H.out.1; omega)
     have hr := hin2.out.2.2.1
     have hq : q = (VS.map (·.2.2)).flatten.length := by
      rw [hin2.out.1, hl]
      unfold sumQ
      rw [List.length_flatten, List.map_map]
      rfl
     rw [hl] at hr
     rw [hq] at hr
     refine ⟨oa, oc, by rw [← hq]; rfl, hr, fun h => hin2.out.2.2.2 ?_, hin2.out.2.1⟩
     rcases Nat.eq_zero_or_pos VS.length with e | e
     ·exact e
     ·have h1 := H.out.2.2 _ (List.getElem_mem e)
      have h2 : VS[0].2.2 = [] := List.flatten_eq_nil_iff.1 h _ (List.mem_map.2 ⟨_, List.getElem_mem e, rfl⟩)
      rw [h2] at h1
      simp at h1
end Go.Proofs.YtlklmpjakeedcaaGreatDoor
set_option linter.unusedVariables false
set_option linter.unusedSimpArgs false
set_option linter.unnecessarySimpa false
namespace Go.Proofs.YtlklmpjakeedcaaGreatDoor
open Go.RowKit Go.MapKept Go.Shelf

theorem parts_rows {X : List (List Int)} (h : Cp.rightI X = true) : ∀ l ∈ Cp.partsI X, 1 ≤ l.length ∧ l.length ≤ 64 := by
 intro l hl
 have hG := Cp.right_RG h
 have hT := Cp.told hG
 unfold Cp.partsI at hl
 rw [h, if_pos rfl] at hl
 unfold Cp.intsG at hl
 obtain ⟨m, hm, rfl⟩ := List.mem_map.1 hl
 obtain ⟨p, hp, rfl⟩ := List.getElem_of_mem hm
 rw [List.length_map]
 have h1 : ((Cp.partsR (Cp.toG X))[p]).length ≤ 64 := by
  rw [hT.rows p hp]
  have := List.length_filter_le (fun i => decide (Cp.placeR (Cp.partsR (Cp.toG X)) i = (p : Int))) (List.range (Cp.toG X).length)
  have := hG.few
  rw [List.length_range] at *
  omega
 obtain ⟨a, ha, e⟩ := hT.some p hp
 have h2 : a ∈ (Cp.partsR (Cp.toG X))[p] := by
  rw [hT.rows p hp]
  simp [ha, e]
 exact ⟨List.length_pos_of_mem h2, h1⟩

set_option maxRecDepth 100000 in
set_option maxHeartbeats 4000000 in
theorem Order_any (w : World) (a1 : Option Addr) (n1 c1 : Nat) (a2 : Option Addr) (n2 c2 : Nat) (g : Gr) (hg : GramAt w a1 n1 c1 a2 n2 c2 g) (hre : Reach g) :
  Calls Tryz.prog 15 #[.agg #[.slice a1 n1 c1, .slice a2 n2 c2]] w (WithP w (orderI (graphG g))) := by
 have hcA := (Chg.refl [] w).alloc (.cells #[.slice a1 n1 c1, .slice a2 n2 c2] 31)
 have HG := Lib.hid (ofC_any _ a1 n1 c1 a2 n2 c2 g (hg.keep hcA.kp) hre)
 have HA := Lib.hid hcA
 obtain ⟨X, hXd⟩ : ∃ X, X = graphG g := ⟨_, rfl⟩
 rw [← hXd] at HG ⊢
 clear hcA hg hre hXd
 go_enter Tryz.func15, Tryz.ntmps15
 go_wp2_with fail
 refine HG.out.mono ?_
 rintro e w1 ⟨ga, gc, pa, pc, VG, VP, rfl, hW, hO, hc1⟩
 have hrows : ∀ p ∈ VP, 1 ≤ p.2.2.length ∧ p.2.2.length ≤ 64 := fun p hp => parts_rows hW.right _ (by rw [← hW.ep]; exact List.mem_map.2 ⟨p, hp, rfl⟩)
 have hC := concat_any w1 pa VP.length pc VP rfl hW.plen.2 hrows hW.pi
 rw [hW.ep] at hC
 obtain ⟨gn, hgn⟩ : ∃ k, k = VG.length := ⟨_, rfl⟩
 obtain ⟨pn, hpn⟩ : ∃ k, k = VP.length := ⟨_, rfl⟩
 rw [← hgn, ← hpn]
 rw [← hpn] at hC
 have fx : ∀ V : World, (Instr.field 74 (.agg #[.slice ga gn gc, .slice pa pn pc]) 0).run Tryz.prog V = .ok (.agg #[.slice ga gn gc, .slice pa pn pc]) V := fun V => by kernel_rfl
 have fy : ∀ V : World, (Instr.field 72 (.agg #[.slice ga gn gc, .slice pa pn pc]) 1).run Tryz.prog V = .ok (.slice pa pn pc) V := fun V => by kernel_rfl
 have H1 := Lib.hid (And.intro hC (HA.out.tr hc1))
 clear hC hc1 hW hO hrows hgn hpn
 go_wp2_with fail
 refine H1.out.1.mono ?_
 rintro e w2 ⟨a, c, rfl, hf, hnl, hc2⟩
 obtain ⟨q, hq⟩ : ∃ q, q = (Cp.partsI X).flatten.length := ⟨_, rfl⟩
 rw [← hq]
 have H2 := Lib.hid (And.intro (row_base hf H1.out.2.size) (And.intro hq (And.intro hnl (H1.out.2.tr hc2))))
 clear hf hc2 hq hnl
 go_wp2_with fail
 go_ret
 exact ⟨a, c, by rw [H2.out.2.1]; rfl, H2.out.1, H2.out.2.2.1, H2.out.2.2.2⟩

/-- The cells of a row that holds numbers. -/
theorem nums_ints {w : World} {B : Nat} {t : TypeId} {a : Option Addr} {c : Nat} {zs : List Int} (h : w.ownsRow B t 1 (.slice a zs.length c) zs.length (zs.map (Value.int .i64))) : Ints w a zs := fun i hi => by
 rcases h.2 with ⟨h0, h1⟩ | ⟨g, cap, cur, h0, _⟩
 ·omega
 ·simp only [Value.slice.injEq] at h0
  obtain ⟨rfl, -, rfl⟩ := h0
  have := (row_put h (i := i) (by omega)).1
  rw [List.getElem?_map, List.getElem?_eq_getElem hi] at this
  exact ⟨g, 0, rfl, by rw [Nat.zero_add]; exact this⟩

set_option maxRecDepth 100000 in
set_option maxHeartbeats 1000000 in
theorem free1_any (w : World) (z : Int) : Calls Tryz.prog 62 #[.int .i64 z] w fun e w' => e = .returned (.bool (z != 0)) ∧ Chg [] w w' := by
 go_enter Tryz.func62, Tryz.ntmps62
 go_wp2_with fail
 go_ret
 exact ⟨rfl, Chg.refl _ _⟩

set_option maxRecDepth 100000 in
set_option maxHeartbeats 2000000 in
theorem idxSort_any (w : World) (a : Option Addr) (n c : Nat) (zs : List Int) (hn : n = zs.length) (hs : n ≤ 9223372036854775807) (hz : Ints w a zs) :
  Calls Tryz.prog 93 #[.slice a n c, .func (.func 62) #[] #[]] w fun e w' => e = .returned (.int .i64 (idxI zs (fun z => z != 0))) ∧ Chg [] w w' := by
 have H := Lib.hid (And.intro hn hz)
 clear hn hz
 go_enter Tryz.func93, Tryz.ntmps93
 go_wp2_with fail
 go_loopg [8] n (fun d iv wr => ∃ k : Nat, d = n - k ∧ k ≤ n ∧ iv = .int .i64 k ∧ Chg [] w wr ∧ Hid (∀ j (h : j < zs.length), j < k → (zs[j] != 0) = false))
 case atStart => exact ⟨0, rfl, Nat.zero_le _, rfl, Chg.refl _ _, Lib.hid (fun j _ h => by omega)⟩
 case round =>
  obtain ⟨k, rfl, hk, rfl, hcw, hb⟩ := hrel
  have HC := Lib.hid hcw
  clear hcw
  by_cases hlt : k < n
  ·have hk' : k < zs.length := by have := H.out.1; omega
   obtain ⟨b, o, rfl, h1⟩ := (H.out.2.keep HC.out.kp) k hk'
   obtain ⟨r, hr⟩ : ∃ r, r = zs[k] := ⟨_, rfl⟩
   rw [← hr] at h1
   have HR := Lib.hid hr
   clear hr
   go_wp2_with fail
   refine (free1_any _ r).mono ?_
   rintro e w1 ⟨rfl, hc1⟩
   have H1 := Lib.hid hc1
   clear hc1
   cases hp : (r != 0)
   ·go_wp2
    go_roundg (n - (k + 1))
    case measure => omega
    case rel =>
     refine ⟨k + 1, rfl, by omega, by go_num, HC.out.tr H1.out, Lib.hid fun j h hj => ?_⟩
     by_cases e : j = k
     ·subst e; rw [← HR.out]; exact hp
     ·exact hb.out j h (by omega)
   ·go_wp2
    go_ret
    refine ⟨ret_int ?_, HC.out.tr H1.out⟩
    have hk' : k < zs.length := by have := H.out.1; omega
    have hf := findIdx_at (p := fun z : Int => z != 0) hk' (by rw [← HR.out]; exact hp) (fun j hj => hb.out j (by omega) hj)
    unfold idxI
    rw [hf, if_pos hk']
  ·obtain rfl : k = n := by omega
   go_wp2
   go_ret
   refine ⟨ret_int ?_, HC.out⟩
   have hf := findIdx_none (p := fun z : Int => z != 0) (l := zs) (fun j hj => hb.out j hj (by have := H.out.1; omega))
   unfold idxI
   rw [hf, if_neg (by omega)]

theorem idxI_neq (zs : List Int) : decide (0 ≤ idxI zs (fun z => z != 0)) = zs.any (fun z => z != 0) := by
 unfold idxI
 by_cases h : zs.findIdx (fun z => z != 0) < zs.length
 ·rw [if_pos h]
  obtain ⟨x, hx, hp⟩ := List.findIdx_lt_length.1 h
  rw [List.any_eq_true.2 ⟨x, hx, hp⟩]
  simp
 ·rw [if_neg h]
  have : zs.any (fun z => z != 0) = false := by
   rw [Bool.eq_false_iff]
   intro ha
   obtain ⟨x, hx, hp⟩ := List.any_eq_true.1 ha
   exact h (List.findIdx_lt_length.2 ⟨x, hx, hp⟩)
  rw [this]; rfl

set_option maxRecDepth 100000 in
set_option maxHeartbeats 1000000 in
theorem containsSort_any (w : World) (a : Option Addr) (n c : Nat) (zs : List Int) (hn : n = zs.length) (hs : n ≤ 9223372036854775807) (hz : Ints w a zs) :
  Calls Tryz.prog 61 #[.slice a n c, .func (.func 62) #[] #[]] w fun e w' => e = .returned (.bool (zs.any (fun z => z != 0))) ∧ Chg [] w w' := by
 have H := Lib.hid (idxSort_any w a n c zs hn hs hz)
 obtain ⟨k, hk⟩ : ∃ k, k = idxI zs (fun z => z != 0) := ⟨_, rfl⟩
 rw [← hk] at H
 rw [← idxI_neq, ← hk]
 clear hn hz hk
 go_enter Tryz.func61, Tryz.ntmps61
 go_wp2_with fail
 refine H.out.mono ?_
 rintro e w1 ⟨rfl, hc⟩
 have H1 := Lib.hid hc
 clear hc
 go_wp2_with fail
 go_ret
 exact ⟨rfl, H1.out⟩

theorem free_all (X : List (List Int)) : freeI X = (decide (0 < X.length) && !(allI X).any (fun z => z != 0)) := by
 unfold freeI allI
 congr 1
 rw [List.any_map, List.not_any_eq_all_not]
 congr 1
 funext i
 simp [bne]

set_option maxRecDepth 100000 in
set_option maxHeartbeats 4000000 in
theorem Free_any (w : World) (a1 : Option Addr) (n1 c1 : Nat) (a2 : Option Addr) (n2 c2 : Nat) (g : Gr) (hg : GramAt w a1 n1 c1 a2 n2 c2 g) (hre : Reach g) :
  Calls Tryz.prog 33 #[.agg #[.slice a1 n1 c1, .slice a2 n2 c2]] w fun e w' => e = .returned (.bool (freeI (graphG g))) ∧ Chg [] w w' := by
 have hcA := (Chg.refl [] w).alloc (.cells #[.slice a1 n1 c1, .slice a2 n2 c2] 31)
 have HG := Lib.hid (All_any _ a1 n1 c1 a2 n2 c2 g (hg.keep hcA.kp) hre)
 have hl := allI_len (graphG g)
 have hl64 : (graphG g).length ≤ 64 := by
  have := graph_right g
  unfold Cp.rightI at this
  rw [Bool.and_eq_true] at this
  exact of_decide_eq_true this.1
 have hf := free_all (graphG g)
 rw [← hl] at hf hl64
 obtain ⟨R, hR⟩ : ∃ R, R = freeI (graphG g) := ⟨_, rfl⟩
 rw [← hR] at hf ⊢
 obtain ⟨L, hL⟩ : ∃ L, L = allI (graphG g) := ⟨_, rfl⟩
 rw [← hL] at HG hf hl64
 have HA := Lib.hid (And.intro hcA hf)
 clear hcA hg hre hl hf hR hL
 go_enter Tryz.func33, Tryz.ntmps33
 go_wp2_with fail
 refine HG.out.mono ?_
 rintro e w1 ⟨a, c, rfl, hr, hnil, hc1⟩
 obtain ⟨n, hn⟩ : ∃ n, n = L.length := ⟨_, rfl⟩
 rw [← hn] at hl64 hnil ⊢
 have hi := nums_ints hr
 have hsome : n ≠ 0 → ∃ b, a = some b := fun h => by
  obtain ⟨b, o, e, _⟩ := hi 0 (by omega)
  exact ⟨_, e⟩
 have H1 := Lib.hid (And.intro hi (And.intro hn (HA.out.1.tr hc1)))
 clear hr hi hn hc1
 by_cases h0 : n = 0
 ·obtain rfl := hnil h0
  go_wp2_with fail
  go_ret
  refine ⟨ret_bool ?_, H1.out.2.2⟩
  rw [HA.out.2, ← H1.out.2.1, h0]; rfl
 ·obtain ⟨b, rfl⟩ := hsome h0
  clear hnil hsome
  go_wp2_with fail
  refine (containsSort_any w1 _ n c L H1.out.2.1 (by omega) H1.out.1).mono ?_
  rintro e w2 ⟨rfl, hc2⟩
  obtain ⟨r, hr⟩ : ∃ r, r = L.any (fun z => z != 0) := ⟨_, rfl⟩
  rw [← hr]
  have H2 := Lib.hid (And.intro hr (H1.out.2.2.tr hc2))
  clear hr hc2
  go_wp2_with fail
  go_ret
  refine ⟨ret_bool ?_, H2.out.2⟩
  rw [HA.out.2, ← H1.out.2.1, ← H2.out.1, decide_eq_true (by omega : 0 < n)]
  cases r <;> rfl
end Go.Proofs.YtlklmpjakeedcaaGreatDoor

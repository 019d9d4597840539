/-
  The program at work on what may match nothing: each kind's way, and a node.
  Conditions: the grammar reads as data; kids stand behind their node; calls are of rules.
-/
import Derived.Test.YtlklmpjakeedcaaGreatDoorSTlGOf
import Derived.Test.YtlklmpjakeedcaaGreatDoorSTlGNode
import Derived.Test.YtlklmpjakeedcaaGreatDoorSTlKB1
import Derived.Test.YtlklmpjakeedcaaGreatDoorSTlGCopy
import Derived.Shelf.Abstract
set_option linter.unusedVariables false
set_option linter.unusedSimpArgs false
namespace Go.Proofs.YtlklmpjakeedcaaGreatDoor
open Go.RowKit Go.MapKept Go.Shelf

def waysM (k : Int) : Option Value :=
  if k = 1 ∨ k = 8 ∨ k = 10 ∨ k = 11 ∨ k = 12 then some (shapeF 153) else if k = 6 ∨ k = 9 then some (shapeF 154)
  else if k = 7 then some (shapeF 155) else if k = 5 then some (shapeF 156) else none
/-- What a call may, by ranks as they stand. -/
def callsL (rs : List Int) (q : Int) : Bool := decide (0 ≤ q) && decide (0 < (rs[q.toNat]?).getD 0)
/-- The work in memory. -/
structure WorkAt (W : World) (B R m : Nat) (a1 : Option Addr) (n1 c1 : Nat) (a2 : Option Addr) (n2 c2 : Nat) (g : Gr) (rs : List Int) : Prop where
  box : W.heap[B]? = some (.cells #[.slice a1 n1 c1, .slice a2 n2 c2, .slice (some ⟨R, 0, none⟩) n1 n1, .map (some m)] 195 (0, 0))
  gram : GramAt W a1 n1 c1 a2 n2 c2 g
  row : W.heap[R]? = some (rowOf n1 rs)
  len : rs.length = n1
  ways : MapIs Tryz.prog 46 (Value.int .i64) W m waysM
theorem WorkAt.chg {W W' : World} {B R m : Nat} {a1 : Option Addr} {n1 c1 : Nat} {a2 : Option Addr} {n2 c2 : Nat} {g : Gr} {rs : List Int} (h : WorkAt W B R m a1 n1 c1 a2 n2 c2 g rs) (hc : Chg [] W W') : WorkAt W' B R m a1 n1 c1 a2 n2 c2 g rs :=
  ⟨hc.heap h.box (by simp), h.gram.keep hc.kp, hc.heap h.row (by simp), h.len, h.ways.chg hc (by simp)⟩

set_option maxRecDepth 100000 in
set_option maxHeartbeats 1000000 in
theorem always_any (w : World) (p : Value) (x : Nd) (a : Option Addr) (n c : Nat) : Calls Tryz.prog 153 #[p, .agg (x.cells a n c)] w fun e w' => e = .returned (.bool true) ∧ Chg [] w w' := by
  unfold Nd.cells
  go_enter Tryz.func153, Tryz.ntmps153
  go_wp2_with fail
  go_ret
  exact ⟨rfl, (Chg.refl _ _).alloc _⟩

set_option maxRecDepth 100000 in
set_option maxHeartbeats 2000000 in
theorem every_any (w : World) (B : Nat) (x : Nd) (a : Option Addr) (n c : Nat) (M : Int → Bool) (hn : n = x.kids.length) (hs : n ≤ 9223372036854775807) (hz : Ints w a x.kids)
    (hc : ∀ w1, Chg [] w w1 → ∀ k ∈ x.kids, Calls Tryz.prog 105 #[.pointer (some ⟨B, 0, none⟩), .int .i64 k] w1 fun e w' => e = .returned (.bool (M k)) ∧ Chg [] w1 w') :
    Calls Tryz.prog 154 #[.pointer (some ⟨B, 0, none⟩), .agg (x.cells a n c)] w fun e w' => e = .returned (.bool (x.kids.all M)) ∧ Chg [] w w' := by
  obtain ⟨R, hR⟩ : ∃ R, R = x.kids.all M := ⟨_, rfl⟩
  rw [← hR]
  have H := Lib.hid (And.intro hn (And.intro hz (And.intro hc hR)))
  clear hn hz hc hR
  unfold Nd.cells
  go_enter Tryz.func154, Tryz.ntmps154
  have hb := heap_alloc_same w (.cells #[.int .i64 x.k, .int .u64 x.c0, .int .u64 x.c1, .int .u64 x.c2, .int .u64 x.c3, .string x.s, .int .i64 x.r, .int .i64 x.l, .slice a n c] 65)
  obtain ⟨x0, x1, x2, x3, x4, x5, x6, x7, x8⟩ := cells9 hb
  clear hb
  go_wp2_with fail
  go_loopg [10] n (fun d iv wr => ∃ k : Nat, d = n - k ∧ k ≤ n ∧ iv = .int .i64 k ∧ Hid (Chg [] w wr ∧ ∀ j (h : j < k) (h' : j < x.kids.length), M x.kids[j] = true))
  case atStart => exact ⟨0, rfl, Nat.zero_le _, rfl, Lib.hid ⟨(Chg.refl _ _).alloc _, fun j h => by omega⟩⟩
  case round =>
    obtain ⟨k, rfl, hk, rfl, hin⟩ := hrel
    obtain ⟨wq, rfl⟩ : ∃ wq, wq = wr := ⟨_, rfl⟩
    by_cases hlt : k < n
    · have hkx : k < x.kids.length := by have := H.out.1; omega
      obtain ⟨bx, ox, rfl, hx⟩ := H.out.2.1 k hkx
      have hx := hin.out.1.kp.2 _ _ hx
      obtain ⟨z, hzx⟩ : ∃ z, z = x.kids[k] := ⟨_, rfl⟩
      rw [← hzx] at hx
      obtain ⟨r, hr⟩ : ∃ r, r = M z := ⟨_, rfl⟩
      have hcall := H.out.2.2.1 wq hin.out.1 z (by rw [hzx]; exact List.getElem_mem hkx)
      rw [← hr] at hcall
      have HZ := Lib.hid (And.intro hzx (And.intro hr hcall))
      clear hzx hr hcall
      go_wp2_with fail
      refine HZ.out.2.2.mono ?_
      rintro e w3 ⟨rfl, hc3⟩
      have H3 := Lib.hid (hin.out.1.tr hc3)
      clear hc3
      cases r with
      | false =>
        go_wp2
        go_ret
        refine ⟨ret_bool ?_, H3.out⟩
        rw [H.out.2.2.2, eq_comm]
        refine Bool.eq_false_iff.2 (fun h => ?_)
        rw [List.all_eq_true] at h
        have h1 := h _ (List.getElem_mem hkx)
        rw [← HZ.out.1, ← HZ.out.2.1] at h1
        cases h1
      | true =>
        go_wp2
        go_roundg (n - (k + 1))
        case measure => omega
        case rel =>
          refine ⟨k + 1, rfl, by omega, by go_num, Lib.hid ⟨H3.out, fun j h h' => ?_⟩⟩
          by_cases hj : j = k
          · subst hj; rw [← HZ.out.1, ← HZ.out.2.1]
          · exact hin.out.2 j (by omega) h'
    · obtain rfl : k = n := by omega
      go_wp2
      go_ret
      refine ⟨ret_bool ?_, hin.out.1⟩
      rw [H.out.2.2.2, eq_comm, List.all_eq_true]
      intro z hz
      obtain ⟨j, hj, rfl⟩ := List.mem_iff_getElem.1 hz
      exact hin.out.2 j (by have := H.out.1; omega) hj

set_option maxRecDepth 100000 in
set_option maxHeartbeats 2000000 in
theorem some_any (w : World) (B : Nat) (x : Nd) (a : Option Addr) (n c : Nat) (M : Int → Bool) (hn : n = x.kids.length) (hs : n ≤ 9223372036854775807) (hz : Ints w a x.kids)
    (hc : ∀ w1, Chg [] w w1 → ∀ k ∈ x.kids, Calls Tryz.prog 105 #[.pointer (some ⟨B, 0, none⟩), .int .i64 k] w1 fun e w' => e = .returned (.bool (M k)) ∧ Chg [] w1 w') :
    Calls Tryz.prog 155 #[.pointer (some ⟨B, 0, none⟩), .agg (x.cells a n c)] w fun e w' => e = .returned (.bool (x.kids.any M)) ∧ Chg [] w w' := by
  obtain ⟨R, hR⟩ : ∃ R, R = x.kids.any M := ⟨_, rfl⟩
  rw [← hR]
  have H := Lib.hid (And.intro hn (And.intro hz (And.intro hc hR)))
  clear hn hz hc hR
  unfold Nd.cells
  go_enter Tryz.func155, Tryz.ntmps155
  have hb := heap_alloc_same w (.cells #[.int .i64 x.k, .int .u64 x.c0, .int .u64 x.c1, .int .u64 x.c2, .int .u64 x.c3, .string x.s, .int .i64 x.r, .int .i64 x.l, .slice a n c] 65)
  obtain ⟨x0, x1, x2, x3, x4, x5, x6, x7, x8⟩ := cells9 hb
  clear hb
  go_wp2_with fail
  go_loopg [10] n (fun d iv wr => ∃ k : Nat, d = n - k ∧ k ≤ n ∧ iv = .int .i64 k ∧ Hid (Chg [] w wr ∧ ∀ j (h : j < k) (h' : j < x.kids.length), M x.kids[j] = false))
  case atStart => exact ⟨0, rfl, Nat.zero_le _, rfl, Lib.hid ⟨(Chg.refl _ _).alloc _, fun j h => by omega⟩⟩
  case round =>
    obtain ⟨k, rfl, hk, rfl, hin⟩ := hrel
    obtain ⟨wq, rfl⟩ : ∃ wq, wq = wr := ⟨_, rfl⟩
    by_cases hlt : k < n
    · have hkx : k < x.kids.length := by have := H.out.1; omega
      obtain ⟨bx, ox, rfl, hx⟩ := H.out.2.1 k hkx
      have hx := hin.out.1.kp.2 _ _ hx
      obtain ⟨z, hzx⟩ : ∃ z, z = x.kids[k] := ⟨_, rfl⟩
      rw [← hzx] at hx
      obtain ⟨r, hr⟩ : ∃ r, r = M z := ⟨_, rfl⟩
      have hcall := H.out.2.2.1 wq hin.out.1 z (by rw [hzx]; exact List.getElem_mem hkx)
      rw [← hr] at hcall
      have HZ := Lib.hid (And.intro hzx (And.intro hr hcall))
      clear hzx hr hcall
      go_wp2_with fail
      refine HZ.out.2.2.mono ?_
      rintro e w3 ⟨rfl, hc3⟩
      have H3 := Lib.hid (hin.out.1.tr hc3)
      clear hc3
      cases r with
      | true =>
        go_wp2
        go_ret
        refine ⟨ret_bool ?_, H3.out⟩
        rw [H.out.2.2.2, eq_comm, List.any_eq_true]
        refine ⟨_, List.getElem_mem hkx, ?_⟩
        rw [← HZ.out.1, ← HZ.out.2.1]
      | false =>
        go_wp2
        go_roundg (n - (k + 1))
        case measure => omega
        case rel =>
          refine ⟨k + 1, rfl, by omega, by go_num, Lib.hid ⟨H3.out, fun j h h' => ?_⟩⟩
          by_cases hj : j = k
          · subst hj; rw [← HZ.out.1, ← HZ.out.2.1]
          · exact hin.out.2 j (by omega) h'
    · obtain rfl : k = n := by omega
      go_wp2
      go_ret
      refine ⟨ret_bool ?_, hin.out.1⟩
      rw [H.out.2.2.2, eq_comm]
      refine Bool.eq_false_iff.2 (fun h => ?_)
      rw [List.any_eq_true] at h
      obtain ⟨z, hz, h1⟩ := h
      obtain ⟨j, hj, rfl⟩ := List.mem_iff_getElem.1 hz
      rw [hin.out.2 j (by have := H.out.1; omega) hj] at h1
      cases h1

set_option maxRecDepth 100000 in
set_option maxHeartbeats 2000000 in
theorem called_any (w : World) (B R m : Nat) (a1 : Option Addr) (n1 c1 : Nat) (a2 : Option Addr) (n2 c2 : Nat) (g : Gr) (rs : List Int) (x : Nd) (a : Option Addr) (n c : Nat) (hw : WorkAt w B R m a1 n1 c1 a2 n2 c2 g rs) (hx : 0 ≤ x.r ∧ x.r < n1) :
    Calls Tryz.prog 156 #[.pointer (some ⟨B, 0, none⟩), .agg (x.cells a n c)] w fun e w' => e = .returned (.bool (callsL rs x.r)) ∧ Chg [] w w' := by
  obtain ⟨q, hq⟩ : ∃ q : Nat, x.r = q := ⟨x.r.toNat, by omega⟩
  have hql : q < rs.length := by have := hw.len; omega
  obtain ⟨z, hz⟩ : ∃ z, z = rs[q] := ⟨_, rfl⟩
  have hcell := (row_cell hw.row (i := q) (x := z) (by rw [hz]; exact List.getElem?_eq_getElem hql))
  have e : callsL rs x.r = decide (0 < z) := by
    simp [callsL, hq, List.getElem?_eq_getElem hql, hz]
  rw [e]
  unfold Nd.cells
  rw [hq]
  have hcell := Lib.cell?_alloc_some (.cells #[.int .i64 x.k, .int .u64 x.c0, .int .u64 x.c1, .int .u64 x.c2, .int .u64 x.c3, .string x.s, .int .i64 q, .int .i64 x.l, .slice a n c] 65) hcell
  have hbx := heap_alloc_lt hw.box (.cells #[.int .i64 x.k, .int .u64 x.c0, .int .u64 x.c1, .int .u64 x.c2, .int .u64 x.c3, .string x.s, .int .i64 q, .int .i64 x.l, .slice a n c] 65)
  have hb := heap_alloc_same w (.cells #[.int .i64 x.k, .int .u64 x.c0, .int .u64 x.c1, .int .u64 x.c2, .int .u64 x.c3, .string x.s, .int .i64 q, .int .i64 x.l, .slice a n c] 65)
  obtain ⟨x0, x1, x2, x3, x4, x5, x6, x7, x8⟩ := cells9 hb
  have y2 := cell_of_cells hbx 2
  simp at y2
  have hqn : q < n1 := by omega
  clear hb hbx hw hz e
  go_enter Tryz.func156, Tryz.ntmps156
  go_wp2_with fail
  go_region
  all_goals go_wp2
  all_goals go_ret
  all_goals exact ⟨rfl, ((Chg.refl _ _).alloc _).drew⟩
end Go.Proofs.YtlklmpjakeedcaaGreatDoor
set_option linter.unusedVariables false
set_option linter.unusedSimpArgs false
namespace Go.Proofs.YtlklmpjakeedcaaGreatDoor
open Go.RowKit Go.MapKept Go.Shelf

set_option maxRecDepth 100000 in
set_option maxHeartbeats 4000000 in
theorem may_some (w : World) (B R m : Nat) (a1 : Option Addr) (n1 c1 : Nat) (a2 : Option Addr) (n2 c2 : Nat) (g : Gr) (rs : List Int) (hw : WorkAt w B R m a1 n1 c1 a2 n2 c2 g rs) (n : Nat) (hn : n < g.nodes.length) (f : Nat) (b : Bool) (hf : waysM g.nodes[n].k = some (shapeF f))
    (hc : ∀ w1, Chg [] w w1 → ∀ ak nk ck, nk = g.nodes[n].kids.length → nk ≤ ck → ck ≤ maxLen → Ints w1 ak g.nodes[n].kids → Calls Tryz.prog f #[.pointer (some ⟨B, 0, none⟩), .agg (g.nodes[n].cells ak nk ck)] w1 fun e w' => e = .returned (.bool b) ∧ Chg [] w1 w')
    (eg : ∀ args w, (callFunc f args).run Tryz.prog w = .ok (.enter f args) w) :
    Calls Tryz.prog 105 #[.pointer (some ⟨B, 0, none⟩), .int .i64 n] w fun e w' => e = .returned (.bool b) ∧ Chg [] w w' := by
  obtain ⟨lk, hlk⟩ := kindKey g.nodes[n].k (hw.gram.wf.nodes _ (List.getElem_mem hn)).k
  obtain ⟨bn, o, ak, nk, ck, hae, hx⟩ := hw.gram.nodes n hn
  have hl := (hw.ways.chg (w' := w.drew) ((Chg.refl [] w).drew) (by simp)).look kind_inj Tryz.keyedKind Tryz.underlying193 (z := .nilFunc) rfl hlk false
  rw [hf] at hl
  simp only [Bool.false_eq_true, if_false, Option.getD_some, shapeF] at hl
  have hbx := hw.box
  have y0 := cell_of_cells hbx 0
  have y1 := cell_of_cells hbx 1
  have y3 := cell_of_cells hbx 3
  simp at y0 y1 y3
  have hn2 : n < n2 := by have := hw.gram.e2; omega
  have hs2 := hw.gram.small.2
  have hcall := hc
  obtain ⟨x, hxe⟩ : ∃ x, x = g.nodes[n] := ⟨_, rfl⟩
  rw [← hxe] at hx hl hcall
  obtain ⟨h0, h1, h2, h3, h4, h5, h6, h7, h8, q1, q2, q3, q4⟩ := hx
  have H := Lib.hid (And.intro hcall (And.intro q1 (And.intro q2 (And.intro q3 q4))))
  clear hc hcall hw hf hlk hxe hbx q1 q2 q3 q4
  subst hae
  go_enter Tryz.func105, Tryz.ntmps105
  go_wp2_with fail
  go_region
  all_goals clear hl
  all_goals have hnq := fun (w : World) => neq_func Tryz.underlying200 w (.func f) #[] #[]
  all_goals go_wp2_with fail
  all_goals have hq := H.out.1 w.drew (Chg.refl _ _).drew ak nk ck H.out.2.1 H.out.2.2.1 H.out.2.2.2.1 (H.out.2.2.2.2.keep ((Chg.refl [] _).drew).kp)
  all_goals unfold Nd.cells at hq
  all_goals refine hq.mono ?_
  all_goals rintro e w3 ⟨rfl, hc3⟩
  all_goals have H3 := Lib.hid hc3
  all_goals clear hc3
  all_goals go_wp2
  all_goals go_ret
  all_goals exact ⟨rfl, (Chg.refl _ _).drew.tr H3.out⟩

set_option maxRecDepth 100000 in
set_option maxHeartbeats 4000000 in
theorem may_none (w : World) (B R m : Nat) (a1 : Option Addr) (n1 c1 : Nat) (a2 : Option Addr) (n2 c2 : Nat) (g : Gr) (rs : List Int) (hw : WorkAt w B R m a1 n1 c1 a2 n2 c2 g rs) (n : Nat) (hn : n < g.nodes.length) (hf : waysM g.nodes[n].k = none) :
    Calls Tryz.prog 105 #[.pointer (some ⟨B, 0, none⟩), .int .i64 n] w fun e w' => e = .returned (.bool false) ∧ Chg [] w w' := by
  obtain ⟨lk, hlk⟩ := kindKey g.nodes[n].k (hw.gram.wf.nodes _ (List.getElem_mem hn)).k
  obtain ⟨bn, o, ak, nk, ck, hae, hx⟩ := hw.gram.nodes n hn
  have hl := (hw.ways.chg (w' := w.drew) ((Chg.refl [] w).drew) (by simp)).look kind_inj Tryz.keyedKind Tryz.underlying193 (z := .nilFunc) rfl hlk false
  rw [hf] at hl
  simp only [Bool.false_eq_true, if_false, Option.getD_none] at hl
  have hbx := hw.box
  have y0 := cell_of_cells hbx 0
  have y1 := cell_of_cells hbx 1
  have y3 := cell_of_cells hbx 3
  simp at y0 y1 y3
  have hn2 : n < n2 := by have := hw.gram.e2; omega
  have hs2 := hw.gram.small.2
  obtain ⟨x, hxe⟩ : ∃ x, x = g.nodes[n] := ⟨_, rfl⟩
  rw [← hxe] at hx hl
  obtain ⟨h0, h1, h2, h3, h4, h5, h6, h7, h8, q1, q2, q3, q4⟩ := hx
  clear hw hf hlk hxe hbx q1 q2 q3 q4
  subst hae
  go_enter Tryz.func105, Tryz.ntmps105
  go_wp2_with fail
  go_region
  all_goals clear hl
  all_goals have hnq := fun (w : World) => neq_func_nil Tryz.underlying200 w
  all_goals go_wp2
  all_goals go_ret
  all_goals exact ⟨rfl, (Chg.refl _ _).drew⟩

/-- THE NODE. -/
theorem may_any (B R m : Nat) (a1 : Option Addr) (n1 c1 : Nat) (a2 : Option Addr) (n2 c2 : Nat) (g : Gr) (rs : List Int) (hf : Falls g.nodes) (hq : ∀ x ∈ g.nodes, x.k = 5 → 0 ≤ x.r ∧ x.r < n1) :
    ∀ (d n : Nat), g.nodes.length - n ≤ d → n < g.nodes.length → ∀ w, WorkAt w B R m a1 n1 c1 a2 n2 c2 g rs →
    Calls Tryz.prog 105 #[.pointer (some ⟨B, 0, none⟩), .int .i64 n] w fun e w' => e = .returned (.bool (mayN g.nodes (callsL rs) n)) ∧ Chg [] w w' := by
  intro d
  induction d with
  | zero => intro n h1 h2; omega
  | succ d ih =>
    intro n hd hn w hw
    rw [mayN_eq hf _ hn]
    have key : ∀ (w1 : World), Chg [] w w1 → ∀ k ∈ g.nodes[n].kids, Calls Tryz.prog 105 #[.pointer (some ⟨B, 0, none⟩), .int .i64 k] w1 fun e w' => e = .returned (.bool (mayN g.nodes (callsL rs) k)) ∧ Chg [] w1 w' := by
      intro w1 h1 k hk
      obtain ⟨k1, k2⟩ := hf n hn k hk
      obtain ⟨j, rfl⟩ : ∃ j : Nat, k = j := ⟨k.toNat, by omega⟩
      exact ih j (by omega) (by omega) w1 (hw.chg h1)
    have hmax : maxLen ≤ 9223372036854775807 := by simp [maxLen]
    unfold kindMay easyK
    by_cases e1 : g.nodes[n].k = 1 ∨ g.nodes[n].k = 8 ∨ g.nodes[n].k = 10 ∨ g.nodes[n].k = 11 ∨ g.nodes[n].k = 12
    · rw [decide_eq_true e1, if_pos rfl]
      exact may_some w B R m a1 n1 c1 a2 n2 c2 g rs hw n hn 153 _ (by unfold waysM; rw [if_pos e1]) (fun w1 h1 ak nk ck _ _ _ _ => always_any w1 _ _ ak nk ck) (enters_of Tryz.func153 (by kernel_rfl) rfl)
    rw [decide_eq_false e1, if_neg (by simp)]
    by_cases e2 : g.nodes[n].k = 6 ∨ g.nodes[n].k = 9
    · rw [if_pos e2]
      exact may_some w B R m a1 n1 c1 a2 n2 c2 g rs hw n hn 154 _ (by unfold waysM; rw [if_neg e1, if_pos e2]) (fun w1 h1 ak nk ck q1 q2 q3 q4 => every_any w1 B _ ak nk ck _ q1 (by omega) q4 (fun w2 h2 => key w2 (h1.tr h2))) (enters_of Tryz.func154 (by kernel_rfl) rfl)
    rw [if_neg e2]
    by_cases e3 : g.nodes[n].k = 7
    · rw [if_pos e3]
      exact may_some w B R m a1 n1 c1 a2 n2 c2 g rs hw n hn 155 _ (by unfold waysM; rw [if_neg e1, if_neg e2, if_pos e3]) (fun w1 h1 ak nk ck q1 q2 q3 q4 => some_any w1 B _ ak nk ck _ q1 (by omega) q4 (fun w2 h2 => key w2 (h1.tr h2))) (enters_of Tryz.func155 (by kernel_rfl) rfl)
    rw [if_neg e3]
    by_cases e4 : g.nodes[n].k = 5
    · rw [if_pos e4]
      exact may_some w B R m a1 n1 c1 a2 n2 c2 g rs hw n hn 156 _ (by unfold waysM; rw [if_neg e1, if_neg e2, if_neg e3, if_pos e4]) (fun w1 h1 ak nk ck q1 q2 q3 q4 => called_any w1 B R m a1 n1 c1 a2 n2 c2 g rs _ ak nk ck (hw.chg h1) (hq _ (List.getElem_mem hn) e4)) (enters_of Tryz.func156 (by kernel_rfl) rfl)
    rw [if_neg e4]
    exact may_none w B R m a1 n1 c1 a2 n2 c2 g rs hw n hn (by unfold waysM; rw [if_neg e1, if_neg e2, if_neg e3, if_neg e4])
end Go.Proofs.YtlklmpjakeedcaaGreatDoor

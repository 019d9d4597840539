/-
  Package heads: a stack in memory; whether there is one, where a pair stands, whether a place is low, which rules are put into a set.
  Conditions: none.
-/
import Derived.Test.YtnajhcoimohcaaaSmHd1
import Derived.Test.YtnajhcoimohcaaaSmGCopy
set_option linter.unusedVariables false
set_option linter.unusedSimpArgs false
set_option linter.unnecessarySimpa false
namespace Go.Proofs.Ytnajhcoimohcaaa
open Go.RowKit Go.MapKept

structure Fr where
  f : Fm
  bt : Nat
  bi : Nat
def Fr.cells (x : Fr) : List Value := [.int .i64 x.f.rule, .int .i64 x.f.place, .map (some x.bt), .map (some x.bi), .bool x.f.tnt]
def frCells (l : List Fr) : List Value := l.flatMap Fr.cells
theorem frCells_len (l : List Fr) : (frCells l).length = l.length * 5 := flat_len Fr.cells 5 (fun _ => rfl) l
def mapsOf (l : List Fr) : List Nat := l.flatMap fun x => [x.bt, x.bi]
/-- A stack of activations, its cells, its row, its sets. -/
structure StackAt (w : World) (B : Nat) (a : Option Addr) (c : Nat) (l : List Fr) : Prop where
  top : w.heap[B]? = some (.cells #[.bool true, .slice a l.length c] 78 (0, 0))
  row : w.ownsRow 0 83 5 (.slice a l.length c) l.length (frCells l)
  sets : ∀ x ∈ l, SetIs w x.bt x.f.tch ∧ SetIs w x.bi x.f.inv
  apart : (mapsOf l).Nodup
  wf : ∀ x ∈ l, I64 x.f.rule ∧ I64 x.f.place
theorem mem_mapsOf {l : List Fr} {b : Nat} : b ∈ mapsOf l ↔ ∃ x ∈ l, b = x.bt ∨ b = x.bi := by simp [mapsOf]
theorem StackAt.chg0 {w w' : World} {B : Nat} {a : Option Addr} {c : Nat} {l : List Fr} (h : StackAt w B a c l) (hc : Chg [] w w') : StackAt w' B a c l :=
  ⟨hc.heap h.top (by simp), hc.row h.row (fun _ _ => by simp), fun x hx => ⟨(h.sets x hx).1.chg0 hc, (h.sets x hx).2.chg0 hc⟩, h.apart, h.wf⟩
/-- What a stack's changes may touch. -/
def fpS (B : Nat) (a : Option Addr) (c : Nat) (l : List Fr) : List Nat := B :: ((Value.slice a l.length c).ownBlock.toList ++ mapsOf l)
theorem StackAt.chg {w w' : World} {S : List Nat} {B : Nat} {a : Option Addr} {c : Nat} {l : List Fr} (h : StackAt w B a c l) (hc : Chg S w w') (hS : ∀ x ∈ fpS B a c l, x ∉ S) : StackAt w' B a c l :=
  ⟨hc.heap h.top (hS B (by simp [fpS])), hc.row h.row (fun k hk => hS k (by simp [fpS, hk])), fun x hx => ⟨(h.sets x hx).1.chg hc (hS _ (by simp only [fpS, List.mem_cons, List.mem_append, mem_mapsOf]; exact .inr (.inr ⟨x, hx, .inl rfl⟩))), (h.sets x hx).2.chg hc (hS _ (by simp only [fpS, List.mem_cons, List.mem_append, mem_mapsOf]; exact .inr (.inr ⟨x, hx, .inr rfl⟩)))⟩, h.apart, h.wf⟩
theorem StackAt.at {w : World} {B : Nat} {a : Option Addr} {c : Nat} {l : List Fr} (h : StackAt w B a c l) {i : Nat} (hi : i < l.length) :
    ∃ G, a = some ⟨G, 0, none⟩ ∧ l.length ≤ c ∧ c ≤ 9223372036854775807 ∧ w.cell? ⟨G, i * 5, none⟩ = some (.int .i64 l[i].f.rule) ∧ w.cell? ⟨G, i * 5 + 1, none⟩ = some (.int .i64 l[i].f.place) ∧ w.cell? ⟨G, i * 5 + 2, none⟩ = some (.map (some l[i].bt)) ∧ w.cell? ⟨G, i * 5 + 3, none⟩ = some (.map (some l[i].bi)) ∧ w.cell? ⟨G, i * 5 + 4, none⟩ = some (.bool l[i].f.tnt) ∧ (∀ o, w.frozen? ⟨G, o, none⟩ = false) ∧ G < w.heap.size ∧ ∃ cur, w.heap[G]? = some (.cells cur 83 (0, 0)) := by
  obtain ⟨G, rfl, hn, hm, hl, hcur⟩ : ∃ G, a = some ⟨G, 0, none⟩ ∧ l.length ≤ c ∧ c ≤ maxLen ∧ G < w.heap.size ∧ ∃ cur, w.heap[G]? = some (.cells cur 83 (0, 0)) := by
    rcases h.row.2 with ⟨h0, h1⟩ | ⟨g, cap, cur, h0, hb, hg, hn, hc, _⟩
    · omega
    · cases h0; exact ⟨g, rfl, hn, hc, lt_of_block hg, cur, hg⟩
  have key : ∀ r, r < 5 → w.cell? ⟨G, i * 5 + r, none⟩ = l[i].cells[r]? := fun r hr => by
    rw [(row_put h.row (i := i * 5 + r) (by omega)).1]
    have h1 := flat_get Fr.cells 5 (fun _ => rfl) l i r hr
    rw [List.getElem?_eq_getElem hi, Option.bind_some] at h1
    exact h1
  obtain ⟨cur, hcur⟩ := hcur
  exact ⟨G, rfl, hn, by simp only [maxLen] at hm; exact hm, key 0 (by decide), key 1 (by decide), key 2 (by decide), key 3 (by decide), key 4 (by decide), fun o => free_of_cells hcur o, hl, cur, hcur⟩

set_option maxRecDepth 100000 in
set_option maxHeartbeats 1000000 in
theorem newS_any (w : World) : Calls Try.prog 9 #[] w fun e w' => e = .returned (.pointer (some ⟨w.heap.size, 0, none⟩)) ∧ StackAt w' w.heap.size none 0 [] ∧ Chg [] w w' := by
  go_enter Try.func9, Try.ntmps9
  go_wp2_with fail
  go_ret
  exact ⟨rfl, ⟨heap_alloc_same _ _, World.ownsRow_nil _ _ _ _, by simp, List.Pairwise.nil, by simp⟩, (Chg.refl [] w).alloc _⟩

set_option maxRecDepth 100000 in
set_option maxHeartbeats 1000000 in
theorem isS_any (w : World) (B : Nat) (v : Bool) (h : w.cell? ⟨B, 0, none⟩ = some (.bool v)) : Calls Try.prog 39 #[.pointer (some ⟨B, 0, none⟩)] w fun e w' => e = .returned (.bool v) ∧ Chg [] w w' := by
  go_enter Try.func39, Try.ntmps39
  go_wp2_with fail
  go_ret
  exact ⟨rfl, Chg.refl _ _⟩
set_option maxRecDepth 100000 in
set_option maxHeartbeats 1000000 in
theorem isS_nil (w : World) : Calls Try.prog 39 #[.pointer none] w fun e w' => e = .returned (.bool false) ∧ Chg [] w w' := by
  go_enter Try.func39, Try.ntmps39
  go_wp2_with fail
  go_ret
  exact ⟨rfl, Chg.refl _ _⟩

set_option maxRecDepth 100000 in
set_option maxHeartbeats 2000000 in
theorem at1_any (w : World) (p : Nat) (rule place : Int) (u v : Value) (t : Bool) (r q : Int) (hp : w.heap[p]? = some (.cells #[.int .i64 r, .int .i64 q] 63 (0, 0))) :
    Calls Try.prog 60 #[.agg #[.int .i64 rule, .int .i64 place, u, v, .bool t], .pointer (some ⟨p, 0, none⟩)] w fun e w' => e = .returned (.bool (decide (rule = r ∧ place = q))) ∧ Chg [] w w' := by
  obtain ⟨x0, x1⟩ := cells2 hp
  have hl := lt_of_block hp
  go_enter Try.func60, Try.ntmps60
  by_cases h1 : rule = r <;> by_cases h2 : place = q
  all_goals
    go_wp2_with fail
    go_ret
    refine ⟨ret_bool ?_, (Chg.refl [] w).alloc _⟩
    simp [h1, h2]
end Go.Proofs.Ytnajhcoimohcaaa
set_option linter.unusedVariables false
set_option linter.unusedSimpArgs false
set_option linter.unnecessarySimpa false
namespace Go.Proofs.Ytnajhcoimohcaaa
open Go.RowKit Go.MapKept

def fms (l : List Fr) : List Fm := l.map (·.f)
theorem fms_len (l : List Fr) : (fms l).length = l.length := by simp [fms]
theorem fms_get (l : List Fr) {i : Nat} (h : i < l.length) : (fms l)[i]'(by rw [fms_len]; exact h) = l[i].f := by simp [fms]

set_option maxRecDepth 100000 in
set_option maxHeartbeats 4000000 in
theorem idxF_any (w : World) (B : Nat) (a : Option Addr) (c : Nat) (l : List Fr) (h : StackAt w B a c l) (n : Nat) (hn : n = l.length) (p : Nat) (r q : Int) (hp : w.heap[p]? = some (.cells #[.int .i64 r, .int .i64 q] 63 (0, 0))) :
    Calls Try.prog 59 #[.slice a n c, .func (.func 60) #[] #[.pointer (some ⟨p, 0, none⟩)]] w fun e w' => e = .returned (.int .i64 (atI (fms l) r q)) ∧ Chg [] w w' := by
  obtain ⟨R, hR⟩ : ∃ R, R = atI (fms l) r q := ⟨_, rfl⟩
  rw [← hR]
  have H := Lib.hid (And.intro h (And.intro hn (And.intro hp hR)))
  clear h hn hp hR
  go_enter Try.func59, Try.ntmps59
  go_wp2_with fail
  go_loopg [8] n (fun dd iv wr => ∃ i : Nat, dd = n - i ∧ i ≤ n ∧ iv = .int .i64 i ∧ Hid ((∀ j (h : j < i) (hl : j < l.length), ¬ (l[j].f.rule = r ∧ l[j].f.place = q)) ∧ Chg [] w wr))
  case atStart => exact ⟨0, rfl, Nat.zero_le _, rfl, Lib.hid ⟨fun j hj => by omega, Chg.refl _ _⟩⟩
  case round =>
    obtain ⟨i, rfl, hi, rfl, hin⟩ := hrel
    obtain ⟨wq, rfl⟩ : ∃ wq, wq = wr := ⟨_, rfl⟩
    by_cases hil : i < n
    · have hiL : i < l.length := by have := H.out.2.1; omega
      obtain ⟨G, rfl, hc1, hc2, x0, x1, x2, x3, x4, -, hG, -⟩ := (H.out.1.chg0 hin.out.2).at hiL
      have hnl : n ≤ c := by have := H.out.2.1; omega
      obtain ⟨⟨⟨rule, place, tch, inv, tnt⟩, bt, bi⟩, hx⟩ : ∃ x, x = l[i] := ⟨_, rfl⟩
      rw [← hx] at x0 x1 x2 x3 x4
      simp only at x0 x1 x2 x3 x4
      have hcall := at1_any wq p rule place (.map (some bt)) (.map (some bi)) tnt r q (hin.out.2.heap H.out.2.2.1 (by simp))
      have HX := Lib.hid hx
      have hi1 : (i : Int) < n := by omega
      clear hx hc1
      by_cases hm : rule = r ∧ place = q
      · rw [decide_eq_true hm] at hcall
        have HM := Lib.hid hm
        clear hm
        go_wp2_with fail
        refine hcall.mono ?_
        clear hcall
        rintro e w2 ⟨rfl, hc2'⟩
        have HC := Lib.hid (hin.out.2.tr hc2')
        clear hc2' x0 x1 x2 x3 x4
        go_wp2_with fail
        go_ret
        refine ⟨ret_int ?_, HC.out⟩
        rw [H.out.2.2.2]
        refine (atI_some (k := i) (by rw [fms_len]; exact hiL) ?_ (fun j hj => ?_)).symm
        · rw [fms_get l hiL, ← HX.out]; exact HM.out
        · rw [fms_get l (by omega)]; exact hin.out.1 j hj (by omega)
      · rw [decide_eq_false hm] at hcall
        have HM := Lib.hid hm
        clear hm
        go_wp2_with fail
        refine hcall.mono ?_
        clear hcall
        rintro e w2 ⟨rfl, hc2'⟩
        have HC := Lib.hid (hin.out.2.tr hc2')
        clear hc2' x0 x1 x2 x3 x4
        go_wp2_with fail
        go_roundg (n - (i + 1))
        case measure => omega
        case rel =>
          refine ⟨i + 1, rfl, by omega, by go_num, Lib.hid ⟨fun j hj hl => ?_, HC.out⟩⟩
          by_cases e : j = i
          · subst e; rw [← HX.out]; exact HM.out
          · exact hin.out.1 j (by omega) hl
    · obtain rfl : i = n := by omega
      go_wp2_with fail
      go_ret
      refine ⟨ret_int ?_, hin.out.2⟩
      rw [H.out.2.2.2]
      refine (atI_none fun f hf => ?_).symm
      obtain ⟨x, hx, rfl⟩ := List.mem_map.1 hf
      obtain ⟨j, hj, rfl⟩ := List.mem_iff_getElem.1 hx
      exact hin.out.1 j (by have := H.out.2.1; omega) hj

set_option maxRecDepth 100000 in
set_option maxHeartbeats 2000000 in
theorem atS_any (w : World) (B : Nat) (a : Option Addr) (c : Nat) (l : List Fr) (h : StackAt w B a c l) (r q : Int) :
    Calls Try.prog 40 #[.pointer (some ⟨B, 0, none⟩), .agg #[.int .i64 r, .int .i64 q]] w fun e w' => e = .returned (.int .i64 (atI (fms l) r q)) ∧ Chg [] w w' := by
  obtain ⟨R, hR⟩ : ∃ R, R = atI (fms l) r q := ⟨_, rfl⟩
  obtain ⟨n, hn⟩ : ∃ n, n = l.length := ⟨_, rfl⟩
  have hca := (Chg.refl [] w).alloc (.cells #[.int .i64 r, .int .i64 q] 63)
  have hcall := idxF_any _ B a c l (h.chg0 hca) n hn w.heap.size r q (heap_alloc_same _ _)
  obtain ⟨x0, x1⟩ := cells2 h.top
  have hl := lt_of_block h.top
  rw [← hR] at hcall ⊢
  rw [← hn] at x1
  have H := Lib.hid hca
  clear h hR hca hn
  go_enter Try.func40, Try.ntmps40
  go_wp2_with fail
  refine hcall.mono ?_
  clear hcall
  rintro e w2 ⟨rfl, hc⟩
  have HC := Lib.hid (H.out.tr hc)
  clear hc x0 x1
  go_wp2_with fail
  go_ret
  exact ⟨rfl, HC.out⟩

theorem lowB_at {l : List Fr} {n : Nat} (hn : n + 1 = l.length) (p : Int) : lowB (fms l) p = decide (p < (l[n]'(by omega)).f.place) := by
  unfold lowB fms
  rw [List.getLast?_map, List.getLast?_eq_getElem?, List.getElem?_eq_getElem (by omega)]
  simp only [Option.map_some, show l.length - 1 = n by omega]

set_option maxRecDepth 100000 in
set_option maxHeartbeats 2000000 in
theorem lowS_any (w : World) (B : Nat) (a : Option Addr) (c : Nat) (l : List Fr) (h : StackAt w B a c l) (p : Int) :
    Calls Try.prog 46 #[.pointer (some ⟨B, 0, none⟩), .int .i64 p] w fun e w' => e = .returned (.bool (lowB (fms l) p)) ∧ Chg [] w w' := by
  obtain ⟨R, hR⟩ : ∃ R, R = lowB (fms l) p := ⟨_, rfl⟩
  obtain ⟨n, hn⟩ : ∃ n, n = l.length := ⟨_, rfl⟩
  obtain ⟨x0, x1⟩ := cells2 h.top
  rw [← hR]
  rw [← hn] at x1
  cases n with
  | zero =>
    have e : l = [] := List.eq_nil_of_length_eq_zero hn.symm
    subst e
    have hR' : R = false := hR
    subst hR'
    clear h hR hn
    go_enter Try.func46, Try.ntmps46
    go_wp2_with fail
    go_ret
    exact ⟨rfl, Chg.refl _ _⟩
  | succ n =>
    have hi : n < l.length := by omega
    obtain ⟨G, rfl, hc1, hc2, -, y1, -, -, -, -, -, -⟩ := h.at hi
    have hlow := lowB_at hn p
    rw [← hR] at hlow
    obtain ⟨pl, hpl⟩ : ∃ pl, pl = l[n].f.place := ⟨_, rfl⟩
    rw [← hpl] at y1 hlow
    subst hlow
    have hnc : n + 1 ≤ c := by omega
    have hsub : IntKind.i64.wrap (((n + 1 : Nat) : Int) - 1) = n := by rw [show ((n + 1 : Nat) : Int) - 1 = n by omega]; exact IntWalk.i64_in _ (by omega)
    clear h hR hn hpl hi hc1
    go_enter Try.func46, Try.ntmps46
    go_wp2_with fail
    go_ret
    exact ⟨rfl, Chg.refl _ _⟩

def PutP (w : World) (b : Nat) (T xs : List Int) (e : Ending) (w' : World) : Prop := e = .returned (.tuple #[]) ∧ SetIs w' b (addL T xs) ∧ Chg [b] w w'
set_option maxRecDepth 100000 in
set_option maxHeartbeats 4000000 in
theorem putS_any (w : World) (b : Nat) (T : List Int) (a : Option Addr) (n c : Nat) (xs : List Int) (hn : n = xs.length) (hc : n ≤ c) (hcm : c ≤ 9223372036854775807) (hx : Ints w a xs) (hwf : ∀ z ∈ xs, I64 z) (h : SetIs w b T) :
    Calls Try.prog 51 #[.map (some b), .slice a n c] w (PutP w b T xs) := by
  have H := Lib.hid (And.intro hn (And.intro hx (And.intro hwf h)))
  clear hn hx hwf h
  go_enter Try.func51, Try.ntmps51
  go_wp2_with fail
  go_loopg [8] n (fun dd iv wr => ∃ i : Nat, dd = n - i ∧ i ≤ n ∧ iv = .int .i64 i ∧ Hid (SetIs wr b (addL T (xs.take i)) ∧ Chg [b] w wr))
  case atStart => exact ⟨0, rfl, Nat.zero_le _, rfl, Lib.hid ⟨by simpa [addL] using H.out.2.2.2, Chg.refl _ _⟩⟩
  case round =>
    obtain ⟨i, rfl, hi, rfl, hin⟩ := hrel
    obtain ⟨wq, rfl⟩ : ∃ wq, wq = wr := ⟨_, rfl⟩
    by_cases hil : i < n
    · have hiL : i < xs.length := by have := H.out.1; omega
      obtain ⟨bk, o, rfl, hxc⟩ := H.out.2.1 i hiL
      have hx0 := H.out.2.2.2.map.block
      have hcell : wq.cell? ⟨bk, o + i, none⟩ = some (.int .i64 xs[i]) := MapIs.cellKeep H.out.2.2.2.map hin.out.2 hxc
      obtain ⟨w3, hrun, hs3, hc3⟩ := hin.out.1.put (H.out.2.2.1 xs[i] (List.getElem_mem hiL))
      have e9 : addS (addL T (xs.take i)) xs[i] = addL T (xs.take (i + 1)) := by rw [List.take_succ_eq_append_getElem hiL, addL_snoc]
      rw [e9] at hs3
      obtain ⟨z, hz⟩ : ∃ z, z = xs[i] := ⟨_, rfl⟩
      rw [← hz] at hcell hrun
      have H3 := Lib.hid (And.intro hs3 (hin.out.2.tr hc3))
      clear hs3 hc3 hx0 hz e9 hxc
      go_wp2_with fail
      go_roundg (n - (i + 1))
      case measure => omega
      case rel => exact ⟨i + 1, rfl, by omega, by go_num, H3⟩
    · obtain rfl : i = n := by omega
      have hfin := hin.out.1
      rw [List.take_of_length_le (by have := H.out.1; omega)] at hfin
      have HF := Lib.hid (And.intro hfin hin.out.2)
      clear hfin
      go_wp2_with fail
      refine bodyPost_ret (v := .tuple #[]) (by simp [results, Try.results51, go_sem]) rfl ?_
      exact ⟨rfl, HF.out.1, HF.out.2⟩
end Go.Proofs.Ytnajhcoimohcaaa

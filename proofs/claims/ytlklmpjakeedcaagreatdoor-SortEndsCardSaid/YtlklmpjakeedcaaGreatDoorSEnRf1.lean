/-
 What may match nothing: a node, a rule, a rank, all rules, all nodes.
 Conditions: the grammar reads as data, within the reach.
-/
import Derived.Test.YtlklmpjakeedcaaGreatDoorSEnNuD
import Derived.Test.YtlklmpjakeedcaaGreatDoorSEnNuB
set_option linter.unusedVariables false
set_option linter.unusedSimpArgs false
namespace Go.Proofs.YtlklmpjakeedcaaGreatDoor
open Go.RowKit Go.MapKept Go.Shelf

/-! ### The answers -/
def pickL (n : Nat) (F : Nat → Bool) : List Int := ((List.range n).filter F).map fun (i : Nat) => (i : Int)
theorem pickL_succ (n : Nat) (F : Nat → Bool) : pickL (n + 1) F = pickL n F ++ if F n then [(n : Int)] else [] := by
 simp only [pickL, List.range_succ, List.filter_append, List.map_append]
 congr 1
 by_cases h : F n <;> simp [h]
theorem pickL_le (n : Nat) (F : Nat → Bool) : (pickL n F).length ≤ n := by
 have := List.length_filter_le F (List.range n)
 simpa [pickL] using this
def nodesN (g : Gr) : List Int := if rightB g then pickL g.nodes.length (fun n => mayG g n) else []
theorem callsL_end (g : Gr) : mayN g.nodes (callsL (ranksL g g.rules.length)) = mayG g := by rw [callsL_ranks]; rfl

set_option maxRecDepth 100000 in
set_option maxHeartbeats 2000000 in
theorem which2_any (w : World) (f p many : Nat) (F : Nat → Bool) (hm : many ≤ 100000) (hc : ∀ w1, Chg [] w w1 → ∀ k, k < many → Calls Tryz.prog f #[.pointer (some ⟨p, 0, none⟩), .int .i64 k] w1 fun e w' => e = .returned (.bool (F k)) ∧ Chg [] w1 w')
  (eg : ∀ args w, (callFunc f args).run Tryz.prog w = .ok (.enter f args) w) :
  Calls Tryz.prog 104 #[.int .i64 many, .func (.func f) #[.pointer (some ⟨p, 0, none⟩)] #[]] w (ClonedInts w (pickL many F)) := by
 obtain ⟨i0, hin, hz0, hz1, hz2⟩ := info_parts Tryz.infoInt
 have H := Lib.hid hc
 clear hc
 go_enter Tryz.func104, Tryz.ntmps104
 go_wp2_with fail
 go_loopg [7, 4] many (fun d iv ov wr => ∃ (k : Nat) (a' : Option Addr) (c' q : Nat), d = many - k ∧ k ≤ many ∧ iv = .int .i64 k ∧ ov = .slice a' q c' ∧ Hid (Chg [] w wr ∧ FreshInts w.heap.size wr a' c' (pickL k F) ∧ q = (pickL k F).length))
 case atStart => exact ⟨0, none, 0, 0, rfl, Nat.zero_le _, rfl, rfl, Lib.hid ⟨Chg.refl _ _, World.ownsRow_nil _ _ _ _, rfl⟩⟩
 case round =>
  obtain ⟨k, a', c', q, rfl, hk, rfl, rfl, hin2⟩ := hrel
  obtain ⟨wq, rfl⟩ : ∃ wz, wz = wr := ⟨_, rfl⟩
  by_cases hlt : k < many
  ·obtain ⟨r, hr⟩ : ∃ r, r = F k := ⟨_, rfl⟩
   have hcall := H.out wq hin2.out.1 k hlt
   rw [← hr] at hcall
   have HR := Lib.hid (And.intro hr hcall)
   clear hr hcall
   go_wp2_with fail
   refine HR.out.2.mono ?_
   rintro e w3 ⟨rfl, hc3⟩
   have H3 := Lib.hid hc3
   clear hc3
   cases r with
   | true =>
    have hrow3 := H3.out.row hin2.out.2.1 (fun _ _ => by simp)
    have h1' : ∀ u ∈ [Value.int .i64 (k : Int)], u.oneCell' = true := by simp [Value.oneCell']
    have hq := pickL_le k F
    have hqe := hin2.out.2.2
    have h2' : q + 1 ≤ maxLen ∧ (q + 1) * 8 ≤ 140737488355328 := by simp only [maxLen]; omega
    have hnew := cells_at (w := w3.alloc (.cells #[.int .i64 k] 3)) (heap_alloc_same _ _)
    have hsz := (hin2.out.1.tr H3.out).size
    rw [← hqe] at hrow3
    have H4 := Lib.hid (And.intro (World.ownsRow.alloc hrow3 (.cells #[.int .i64 k] 3)) (And.intro h1' (And.intro h2' (And.intro hnew (And.intro hsz ((hin2.out.1.tr H3.out).alloc (.cells #[.int .i64 k] 3)))))))
    clear hrow3 h1' h2' hnew hsz hq hqe
    go_wp2_with (at_builtin; refine wpList_append_own_at _ rfl _ _ 34 rfl w.heap.size 3 i0 _ 1 8 Tryz.underlying34 hin hz0 hz1 hz2 rfl (by decide) (.slice a' q c') q ((pickL k F).map (Value.int .i64)) rfl H4.out.1 ⟨w3.heap.size, 0, none⟩ 1 1 [.int .i64 k] rfl rfl H4.out.2.2.2.1 H4.out.2.1 H4.out.2.2.1.1 H4.out.2.2.1.2 (by have := H4.out.2.2.2.2.1; rw [World.size_alloc]; omega) ?_; intro v' w5 hr5 hg5 hn5 hb5; obtain ⟨a5, c5, rfl⟩ := ownsRow_slice hr5; have HW := Lib.hid (And.intro hr5 hg5); clear hr5 hg5 hn5 hb5)
    go_roundg (many - (k + 1))
    case measure => omega
    case rel =>
     have hnl : pickL (k + 1) F = pickL k F ++ [(k : Int)] := by rw [pickL_succ, ← HR.out.1]; rfl
     refine ⟨k + 1, a5, c5, q + 1, rfl, by omega, by go_num, rfl, Lib.hid ⟨?_, ?_, ?_⟩⟩
     ·refine H4.out.2.2.2.2.2.grown HW.out.2 (fun i hi => .inr ?_)
      have := hin2.out.2.1
      rw [FreshInts, ← hin2.out.2.2] at this
      exact (row_beyond this hi).1
     ·rw [FreshInts, hnl, List.length_append, ← hin2.out.2.2, List.map_append]
      exact HW.out.1
     ·rw [hnl, List.length_append, ← hin2.out.2.2]; rfl
   | false =>
    go_wp2_with fail
    go_roundg (many - (k + 1))
    case measure => omega
    case rel =>
     have hnl : pickL (k + 1) F = pickL k F := by rw [pickL_succ, ← HR.out.1]; simp
     exact ⟨k + 1, a', c', q, rfl, by omega, by go_num, rfl, Lib.hid ⟨hin2.out.1.tr H3.out, by rw [hnl]; exact H3.out.row hin2.out.2.1 (fun _ _ => by simp), by rw [hnl]; exact hin2.out.2.2⟩⟩
  ·obtain rfl : k = many := by omega
   go_wp2_with fail
   go_ret
   exact ⟨a', c', by rw [← hin2.out.2.2]; rfl, hin2.out.2.1, hin2.out.1⟩

set_option maxRecDepth 100000 in
set_option maxHeartbeats 2000000 in
theorem nullNodes_any (w : World) (a1 : Option Addr) (n1 c1 : Nat) (a2 : Option Addr) (n2 c2 : Nat) (g : Gr) (hg : GramAt w a1 n1 c1 a2 n2 c2 g) (hre : Reach g) :
  Calls Tryz.prog 73 #[.agg #[.slice a1 n1 c1, .slice a2 n2 c2]] w (ClonedInts w (nodesN g)) := by
 have he2 := hg.e2
 obtain ⟨A, hA⟩ : ∃ A, A = nodesN g := ⟨_, rfl⟩
 rw [← hA]
 have H := Lib.hid (And.intro hg (And.intro hre (And.intro he2 hA)))
 clear hg hre he2 hA
 go_enter Tryz.func73, Tryz.ntmps73
 obtain ⟨x0, x1⟩ := cells2 (heap_alloc_same w (.cells #[.slice a1 n1 c1, .slice a2 n2 c2] 31))
 go_wp2_with fail
 refine (ofNull_any _ a1 n1 c1 a2 n2 c2 g (H.out.1.keep ((Chg.refl [] w).alloc _).kp) H.out.2.1).mono ?_
 rintro e w2 ⟨hc2, hif⟩
 have hg2 := hc2.heap (heap_alloc_same w (.cells #[.slice a1 n1 c1, .slice a2 n2 c2] 31)) (by simp)
 have hcw := ((Chg.refl [] w).alloc _).tr0 hc2
 clear x0 x1 hc2
 obtain ⟨x0, x1⟩ := cells2 hg2
 cases hr : rightB g with
 | false =>
  rw [hr] at hif
  obtain rfl : e = _ := hif
  have e0 : nodesN g = [] := by simp [nodesN, hr]
  have e1 := H.out.2.2.2.trans e0
  subst e1
  have HC := Lib.hid hcw
  clear hcw hr hg2
  go_wp2_with fail
  go_ret
  exact ⟨none, 0, rfl, World.ownsRow_nil _ _ _ _, HC.out⟩
 | true =>
  rw [hr, if_pos rfl] at hif
  obtain ⟨B, R, m, rfl, hw⟩ := hif
  have e0 : nodesN g = pickL g.nodes.length (fun n => mayG g n) := by simp [nodesN, hr]
  have e1 := H.out.2.2.2.trans e0
  subst e1
  have hwhich := which2_any w2 105 B n2 (fun n => mayG g n) (by have := (right_sizes hr).2.2; have := H.out.2.2.1; omega)
   (fun w1 h1 k hk => by
    have h2 := may_any B R m a1 n1 c1 a2 n2 c2 g _ (falls_right hr) (by rw [hw.gram.e1]; exact right_calls hr) g.nodes.length k (by omega) (by have := H.out.2.2.1; omega) w1 (hw.chg h1)
    rw [callsL_end] at h2
    exact h2) (enters_of Tryz.func105 (by kernel_rfl) rfl)
  have HC := Lib.hid (And.intro hcw hwhich)
  clear hcw hr hg2 hw hwhich
  go_wp2_with fail
  refine HC.out.2.mono ?_
  rintro e w3 ⟨a', c', rfl, hf, hc3⟩
  have H3 := Lib.hid (And.intro hf hc3)
  clear hf hc3
  go_wp2_with fail
  go_ret
  obtain ⟨hf, hc3⟩ := H3.out
  rw [H.out.2.2.1] at hf
  exact ⟨a', c', by rw [H.out.2.2.1]; rfl, row_base hf HC.out.1.size, HC.out.1.tr hc3⟩
end Go.Proofs.YtlklmpjakeedcaaGreatDoor
set_option linter.unusedVariables false
set_option linter.unusedSimpArgs false
namespace Go.Proofs.YtlklmpjakeedcaaGreatDoor
open Go.RowKit Go.MapKept Go.Shelf

/-! ### Rows of truths -/
def rowB (bs : List Bool) : Obj := .cells (bs.map Value.bool).toArray 4 (0, 0)
theorem Tryz.infoBool : (Tryz.prog.info? 4).map (fun i => (i.zero, i.size, i.bytes)) = some (some (.bool false), 1, 1) := by kernel_rfl
theorem run_falses (n : Nat) (hn : n ≤ 1099511627776) (w : World) : (Instr.makeSlice 108 (.int .i64 n) (.int .i64 n)).run Tryz.prog w = .ok (.slice (some ⟨w.heap.size, 0, none⟩) n n) (w.alloc (rowB (List.replicate n false))) := by
 obtain ⟨i0, hi, hz0, hz1, hz2⟩ := info_parts Tryz.infoBool
 have h1 := run_make (P := Tryz.prog) w 108 4 i0 (.bool false) Tryz.underlying108 hi hz0 .i64 .i64 n n (by omega) (by omega) (by rw [hz2]; omega) (by omega)
 rw [h1]
 simp only [Int.toNat_natCast, hz1, rowB]
 have : madeCells (Value.bool false).cells (n * 1) = (List.map Value.bool (List.replicate n false)).toArray := by
  apply Array.ext
  ·simp [madeCells]
  ·intro i h1 h2
   simp [madeCells, Value.cells, Nat.mod_one]
 rw [this]
theorem rowB_cell {w : World} {b i : Nat} {bs : List Bool} {x : Bool} (h : w.heap[b]? = some (rowB bs)) (hx : bs[i]? = some x) : w.cell? ⟨b, i, none⟩ = some (.bool x) := by
 rw [cell_of_cells h]
 simp [hx]
theorem rowB_free {w : World} {b : Nat} {bs : List Bool} (h : w.heap[b]? = some (rowB bs)) (i : Nat) : w.frozen? ⟨b, i, none⟩ = false := free_of_cells h i
theorem rowB_set {w : World} {b i : Nat} {bs : List Bool} (x : Bool) (h : w.heap[b]? = some (rowB bs)) : (w.setCell ⟨b, i, none⟩ (.bool x)).heap[b]? = some (rowB (bs.set i x)) := by
 rw [heap_setCell_same h]
 simp [rowB, List.map_set]

/-! ### Which are told -/
/-- What the first k of the told nodes say. -/
def toldAt (g : Gr) (k : Nat) : List Bool := (List.range g.nodes.length).map fun (j : Nat) => decide ((j : Int) ∈ (nodesN g).take k)
theorem toldAt_len (g : Gr) (k : Nat) : (toldAt g k).length = g.nodes.length := by simp [toldAt]
theorem toldAt_zero (g : Gr) : toldAt g 0 = List.replicate g.nodes.length false := by
 apply List.ext_getElem
 ·simp [toldAt]
 ·intro j h1 h2; simp [toldAt]
theorem nodesN_at {g : Gr} {k : Nat} {z : Int} (h : (nodesN g)[k]? = some z) : ∃ q : Nat, z = q ∧ q < g.nodes.length := by
 have h1 := List.mem_of_getElem? h
 unfold nodesN at h1
 split at h1
 ·simp only [pickL, List.mem_map, List.mem_filter, List.mem_range] at h1
  obtain ⟨q, ⟨h2, _⟩, rfl⟩ := h1
  exact ⟨q, rfl, h2⟩
 ·cases h1
theorem toldAt_succ {g : Gr} {k q : Nat} (h : (nodesN g)[k]? = some (q : Int)) : toldAt g (k + 1) = (toldAt g k).set q true := by
 apply List.ext_getElem
 ·simp [toldAt]
 ·intro i h1 h2
  rw [List.getElem_set]
  simp only [toldAt, List.getElem_map, List.getElem_range, List.take_add_one, h, Option.toList_some, List.mem_append, List.mem_singleton]
  by_cases hq : q = i
  ·subst hq
   rw [if_pos rfl]; simp
  ·rw [if_neg hq]
   have : ¬ ((i : Int) = (q : Int)) := by omega
   simp [this]
end Go.Proofs.YtlklmpjakeedcaaGreatDoor
set_option linter.unusedVariables false
set_option linter.unusedSimpArgs false
namespace Go.Proofs.YtlklmpjakeedcaaGreatDoor
open Go.RowKit Go.MapKept Go.Shelf

/-! ### What a Kind says -/
theorem right_kind {g : Gr} (h : rightB g = true) {n : Nat} (hn : n < g.nodes.length) : 1 ≤ g.nodes[n].k ∧ g.nodes[n].k ≤ 12 := by
 have h1 := right_node h hn
 unfold nodeB nodeN at h1
 repeat' split at h1
 all_goals first | omega | cases h1
end Go.Proofs.YtlklmpjakeedcaaGreatDoor
set_option linter.unusedVariables false
set_option linter.unusedSimpArgs false
namespace Go.Proofs.YtlklmpjakeedcaaGreatDoor

def kidsOwn (k : Int) (N : Int → Bool) (F : Int → List Int) : List Int → List Int
 | [] => []
 | z :: zs => F z ++ (if k = 6 ∧ N z = false then [] else kidsOwn k N F zs)
def ownF (ns : List Nd) (N : Int → Bool) : Nat → Int → List Int
 | 0, _ => []
 | f + 1, n => if n < 0 then [] else match ns[n.toNat]? with | none => [] | some x => n :: kidsOwn x.k N (ownF ns N f) x.kids
/-- The nodes at a node's own place, in preorder; N: which may match nothing. -/
def ownN (ns : List Nd) (N : Int → Bool) (n : Int) : List Int := ownF ns N ns.length n
theorem kidsOwn_congr {k : Int} {N M : Int → Bool} {F G : Int → List Int} : ∀ (zs : List Int), (∀ z ∈ zs, F z = G z) → (∀ z ∈ zs, N z = M z) → kidsOwn k N F zs = kidsOwn k M G zs := by
 intro zs
 induction zs with
 | nil => intro _ _; rfl
 | cons z zs ih =>
  intro h1 h2
  simp only [kidsOwn]
  rw [h1 z (by simp), h2 z (by simp), ih (fun q hq => h1 q (by simp [hq])) (fun q hq => h2 q (by simp [hq]))]
theorem ownF_fuel {ns : List Nd} (hf : Falls ns) (N : Int → Bool) : ∀ (d : Nat) (n : Nat) (f g : Nat), ns.length - n ≤ d → ns.length - n ≤ f → ns.length - n ≤ g → ownF ns N f n = ownF ns N g n := by
 intro d
 induction d with
 | zero =>
  intro n f g hd h1 h2
  have hn : ns[n]? = none := List.getElem?_eq_none (by omega)
  have key : ∀ f, ownF ns N f n = [] := fun f => by
   cases f with
   | zero => rfl
   | succ f => simp [ownF, hn]
  rw [key, key]
 | succ d ih =>
  intro n f g hd h1 h2
  by_cases hn : n < ns.length
  ·cases f with
   | zero => omega
   | succ f =>
    cases g with
    | zero => omega
    | succ g =>
     have hx : ns[n]? = some ns[n] := List.getElem?_eq_getElem hn
     simp only [ownF, Int.toNat_natCast, hx]
     split
     ·rfl
     ·congr 1
      refine kidsOwn_congr _ (fun k hk => ?_) (fun _ _ => rfl)
      obtain ⟨k1, k2⟩ := hf n hn k hk
      obtain ⟨j, rfl⟩ : ∃ j : Nat, k = j := ⟨k.toNat, by omega⟩
      exact ih j f g (by omega) (by omega) (by omega)
  ·have hn : ns[n]? = none := List.getElem?_eq_none (by omega)
   have key : ∀ f, ownF ns N f n = [] := fun f => by
    cases f with
    | zero => rfl
    | succ f => simp [ownF, hn]
   rw [key, key]
theorem ownN_eq {ns : List Nd} (hf : Falls ns) (N : Int → Bool) {n : Nat} (hn : n < ns.length) : ownN ns N n = (n : Int) :: kidsOwn ns[n].k N (ownN ns N) ns[n].kids := by
 unfold ownN
 rw [ownF_fuel hf N ns.length n ns.length (ns.length + 1) (by omega) (by omega) (by omega)]
 have hx : ns[n]? = some ns[n] := List.getElem?_eq_getElem hn
 simp only [ownF, Int.toNat_natCast, hx, if_neg (show ¬ ((n : Int) < 0) by omega)]
theorem kidsOwn_mem {k : Int} {N : Int → Bool} {F : Int → List Int} {x : Int} : ∀ (zs : List Int), x ∈ kidsOwn k N F zs → ∃ z ∈ zs, x ∈ F z := by
 intro zs
 induction zs with
 | nil => intro h; cases h
 | cons z zs ih =>
  intro h
  simp only [kidsOwn, List.mem_append] at h
  rcases h with h | h
  ·exact ⟨z, by simp, h⟩
  ·split at h
   ·cases h
   ·obtain ⟨q, hq, hx⟩ := ih h
    exact ⟨q, by simp [hq], hx⟩
theorem ownN_in {ns : List Nd} (hf : Falls ns) (N : Int → Bool) {n : Nat} (hn : n < ns.length) : ∀ x ∈ ownN ns N n, ∃ q : Nat, x = q ∧ n ≤ q ∧ q < ns.length := by
 have key : ∀ d n, ns.length - n ≤ d → n < ns.length → ∀ x ∈ ownN ns N n, ∃ q : Nat, x = q ∧ n ≤ q ∧ q < ns.length := by
  intro d
  induction d with
  | zero => intro n _ _; omega
  | succ d ih =>
   intro n hd hn x hx
   rw [ownN_eq hf N hn] at hx
   rcases List.mem_cons.1 hx with rfl | hx
   ·exact ⟨n, rfl, Nat.le_refl _, hn⟩
   ·obtain ⟨z, hz, hx⟩ := kidsOwn_mem _ hx
    obtain ⟨k1, k2⟩ := hf n hn z hz
    obtain ⟨j, rfl⟩ : ∃ j : Nat, z = j := ⟨z.toNat, by omega⟩
    obtain ⟨q, h1, h2, h3⟩ := ih j (by omega) (by omega) x hx
    exact ⟨q, h1, by omega, h3⟩
 exact key _ n (Nat.le_refl _) hn
def ownG (g : Gr) (n : Int) : List Int := ownN g.nodes (mayG g) n

/-! ### The rules that are called -/
def isCall (ns : List Nd) (k : Int) (r : Nat) : Bool := match ns[k.toNat]? with | none => false | some x => decide (x.k = 5) && decide (x.r = r)
/-- Which rules some nodes call. -/
def metL (ns : List Nd) (l : List Int) : List Bool := (List.range 32).map fun r => l.any fun k => isCall ns k r
theorem metL_len (ns : List Nd) (l : List Int) : (metL ns l).length = 32 := by simp [metL]
theorem metL_nil (ns : List Nd) : metL ns [] = List.replicate 32 false := by
 simp only [metL, List.any_nil]
 rfl
theorem isCall_at {ns : List Nd} {q : Nat} (hq : q < ns.length) (r : Nat) : isCall ns q r = (decide (ns[q].k = 5) && decide (ns[q].r = r)) := by
 simp [isCall, List.getElem?_eq_getElem hq]
theorem metL_skip {ns : List Nd} {l : List Int} {q : Nat} (hq : q < ns.length) (hk : ns[q].k ≠ 5) : metL ns (l ++ [(q : Int)]) = metL ns l := by
 refine List.map_congr_left (fun r _ => ?_)
 rw [List.any_append]
 simp [isCall_at hq, hk]
theorem metL_put {ns : List Nd} {l : List Int} {q : Nat} (hq : q < ns.length) (hk : ns[q].k = 5) {r : Nat} (hr : ns[q].r = r) : metL ns (l ++ [(q : Int)]) = (metL ns l).set r true := by
 refine List.ext_getElem (by simp [metL]) (fun i h1 h2 => ?_)
 have hi : i < 32 := by simpa [metL] using h1
 rw [List.getElem_set]
 simp only [metL, List.getElem_map, List.getElem_range, List.any_append, List.any_cons, List.any_nil, Bool.or_false, isCall_at hq, hk, hr]
 by_cases e : r = i
 ·subst e; simp
 ·have : ¬ ((r : Int) = (i : Int)) := by omega
  simp [e, this]
/-- The rules that a node calls at its own place. -/
def callsG (g : Gr) (n : Int) : List Int := pickL 32 (fun r => (ownG g n).any fun k => isCall g.nodes k r)
/-- What lists of truths tell. -/
def pickB (bs : List Bool) : List Int := pickL bs.length (fun i => bs.getD i false)
theorem callsG_pick (g : Gr) (n : Int) : callsG g n = pickB (metL g.nodes (ownG g n)) := by
 unfold callsG pickB
 rw [metL_len]
 simp only [pickL]
 refine congrArg _ (List.filter_congr (fun i hi => ?_))
 rw [List.mem_range] at hi
 simp [metL, List.getD, hi]
/-- Which nodes may match nothing. -/
def nullB (g : Gr) : List Bool := (List.range g.nodes.length).map fun (j : Nat) => mayG g (j : Int)
theorem nullB_at {g : Gr} {j : Nat} (hj : j < g.nodes.length) : (nullB g)[j]? = some (mayG g (j : Int)) := by simp [nullB, hj]
theorem told_null {g : Gr} (hr : rightB g = true) : toldAt g (nodesN g).length = nullB g := by
 apply List.ext_getElem
 ·simp [toldAt, nullB]
 ·intro i h1 h2
  have hi : i < g.nodes.length := by simpa [toldAt] using h1
  simp only [toldAt, nullB, List.getElem_map, List.getElem_range, List.take_length]
  rw [Bool.eq_iff_iff, decide_eq_true_eq]
  unfold nodesN
  rw [if_pos hr]
  simp only [pickL, List.mem_map, List.mem_filter, List.mem_range]
  constructor
  ·rintro ⟨q, ⟨h3, h4⟩, h5⟩
   obtain rfl : q = i := by omega
   exact h4
  ·intro h; exact ⟨i, ⟨hi, h⟩, rfl⟩
def graphG (g : Gr) : List (List Int) := if rightB g then g.rules.map (fun r => callsG g r.body) else []
end Go.Proofs.YtlklmpjakeedcaaGreatDoor
set_option linter.unusedVariables false
set_option linter.unusedSimpArgs false
namespace Go.Proofs.YtlklmpjakeedcaaGreatDoor

/-- A graph among n numbers. -/
structure GraphOk (n : Nat) (G : List (List Int)) : Prop where
 len : G.length = n
 ins : ∀ zs ∈ G, ∀ z ∈ zs, 0 ≤ z ∧ z < n
 few : n ≤ 32
 rows : ∀ zs ∈ G, zs.length ≤ 32
theorem pickL_in {n : Nat} {F : Nat → Bool} {z : Int} (h : z ∈ pickL n F) : ∃ q : Nat, z = q ∧ q < n ∧ F q = true := by
 simp only [pickL, List.mem_map, List.mem_filter, List.mem_range] at h
 obtain ⟨q, ⟨h1, h2⟩, rfl⟩ := h
 exact ⟨q, rfl, h1, h2⟩
theorem graph_ok {g : Gr} (hr : rightB g = true) : GraphOk g.rules.length (graphG g) := by
 have hs := right_sizes hr
 have e : graphG g = g.rules.map (fun r => callsG g r.body) := by simp [graphG, hr]
 refine ⟨by rw [e]; simp, ?_, hs.2.1, ?_⟩
 ·intro zs hzs z hz
  rw [e] at hzs
  obtain ⟨r, hr2, rfl⟩ := List.mem_map.1 hzs
  obtain ⟨q, rfl, hq, hf⟩ := pickL_in hz
  obtain ⟨k, hk, hc⟩ := List.any_eq_true.1 hf
  unfold isCall at hc
  split at hc
  ·cases hc
  ·rename_i x hx
   simp only [Bool.and_eq_true, decide_eq_true_eq] at hc
   have := right_calls hr x (List.mem_of_getElem? hx) hc.1
   rw [hc.2] at this
   exact this
 ·intro zs hzs
  rw [e] at hzs
  obtain ⟨r, hr2, rfl⟩ := List.mem_map.1 hzs
  exact pickL_le _ _
theorem pickL_sorted (n : Nat) (F : Nat → Bool) : (pickL n F).Pairwise (· < ·) := by
 unfold pickL
 rw [List.pairwise_map]
 refine (List.Pairwise.filter _ (List.pairwise_lt_range)).imp ?_
 intro a b h
 omega
theorem mem_pickL {n : Nat} {F : Nat → Bool} {x : Int} : x ∈ pickL n F ↔ ∃ q : Nat, x = q ∧ q < n ∧ F q = true := by
 simp only [pickL, List.mem_map, List.mem_filter, List.mem_range]
 constructor
 ·rintro ⟨q, ⟨h1, h2⟩, rfl⟩; exact ⟨q, rfl, h1, h2⟩
 ·rintro ⟨q, rfl, h1, h2⟩; exact ⟨q, ⟨h1, h2⟩, rfl⟩
end Go.Proofs.YtlklmpjakeedcaaGreatDoor
set_option linter.unusedVariables false
set_option linter.unusedSimpArgs false
set_option linter.unnecessarySimpa false
namespace Go.Proofs.YtlklmpjakeedcaaGreatDoor
open Go.RowKit Go.MapKept Go.Shelf

/-- By ranks from 1 on and below a number. -/
def callsB (zs : List Int) (b : Int) (q : Int) : Bool := decide (0 ≤ q) && (match zs[q.toNat]? with | some z => decide (0 < z) && decide (z < b) | none => false)
theorem right_plus {g : Gr} (h : rightB g = true) {n : Nat} (hn : n < g.nodes.length) (hk : g.nodes[n].k = 9) : g.nodes[n].kids.length = 1 := by
 have h1 := right_node h hn
 unfold nodeB nodeN at h1
 repeat' split at h1
 all_goals first | omega | (rw [Bool.and_eq_true, decide_eq_true_eq] at h1; exact h1.2) | cases h1
theorem right_call {g : Gr} (h : rightB g = true) {n : Nat} (hn : n < g.nodes.length) (hk : g.nodes[n].k = 5) : 0 ≤ g.nodes[n].r ∧ g.nodes[n].r < g.rules.length := by
 have h1 := right_node h hn
 unfold nodeB nodeN at h1
 repeat' split at h1
 all_goals first | omega | (simp only [Bool.and_eq_true, decide_eq_true_eq] at h1; omega) | cases h1

set_option maxRecDepth 100000 in
set_option maxHeartbeats 16000000 in
theorem refMay_any (a1 : Option Addr) (n1 c1 : Nat) (a2 : Option Addr) (n2 c2 : Nat) (g : Gr) (hr : rightB g = true) (az : Option Addr) (nz cz : Nat) (zs : List Int) (hzl : zs.length = g.rules.length) (hnz : nz = zs.length) (below : Int) :
  ∀ (d n : Nat), g.nodes.length - n ≤ d → n < g.nodes.length → ∀ w, GramAt w a1 n1 c1 a2 n2 c2 g → Ints w az zs →
  Calls Tryz.prog 164 #[.agg #[.slice a1 n1 c1, .slice a2 n2 c2], .int .i64 (n : Int), .slice az nz cz, .int .i64 below] w fun e w' => e = .returned (.bool (mayN g.nodes (callsB zs below) n)) ∧ Chg [] w w' := by
 intro d
 induction d with
 | zero => intro n h1 h2; omega
 | succ d ih =>
 intro n hd hn w hg hz
 obtain ⟨x, hx⟩ : ∃ x, x = g.nodes[n] := ⟨_, rfl⟩
 obtain ⟨F, hF⟩ : ∃ F, F = mayN g.nodes (callsB zs below) := ⟨_, rfl⟩
 have hval : mayN g.nodes (callsB zs below) n = kindMay x (callsB zs below) F := by rw [mayN_eq (falls_right hr) _ hn, hx, hF]
 rw [hval]
 have hkids : ∀ k ∈ x.kids, (n : Int) < k ∧ k < g.nodes.length := fun k hk => right_kids hr hn k (by rw [hx] at hk; exact hk)
 have hkb := right_kind hr hn
 have hplus : x.k = 9 → x.kids.length = 1 := fun h => by rw [hx] at h ⊢; exact right_plus hr hn h
 have hcall : x.k = 5 → 0 ≤ x.r ∧ x.r < nz := fun h => by rw [hx] at h ⊢; rw [hnz, hzl]; exact right_call hr hn h
 rw [← hx] at hkb
 have he2 := hg.e2
 have hn2 : n < n2 := by rw [he2]; exact hn
 have hrec : ∀ (k : Nat) (hk : k < x.kids.length) (W : World), Chg [] w W → Calls Tryz.prog 164 #[.agg #[.slice a1 n1 c1, .slice a2 n2 c2], .int .i64 x.kids[k], .slice az nz cz, .int .i64 below] W fun e w' => e = .returned (.bool (F x.kids[k])) ∧ Chg [] W w' := fun k hk W hW => by
  obtain ⟨q1, q2⟩ := hkids _ (List.getElem_mem hk)
  obtain ⟨q, hq⟩ : ∃ q : Nat, x.kids[k] = (q : Int) := ⟨x.kids[k].toNat, by omega⟩
  have := ih q (by omega) (by omega) W (hg.keep hW.kp) (hz.keep hW.kp)
  rw [hq, hF]
  exact this
 obtain ⟨bn, on, ak, nk, ck, rfl, hxa⟩ := hg.nodes n hn
 rw [← hx] at hxa
 obtain ⟨p0, p1, p2, p3, p4, p5, p6, p7, p8, hnk, hle, hcap, hik⟩ := hxa
 have hbk := World.block_lt_of_cell? _ _ p0
 simp only at hbk
 have hrank : x.k = 5 → ∃ z b' o', az = some ⟨b', o', none⟩ ∧ w.cell? ⟨b', o' + x.r.toNat, none⟩ = some (.int .i64 z) ∧ callsB zs below x.r = (decide (0 < z) && decide (z < below)) := fun h => by
  obtain ⟨h1, h2⟩ := hcall h
  have hl : x.r.toNat < zs.length := by omega
  obtain ⟨b', o', e1, e2⟩ := hz _ hl
  refine ⟨_, b', o', e1, e2, ?_⟩
  unfold callsB
  rw [decide_eq_true h1, List.getElem?_eq_getElem hl]
  rfl
 have hsm : nk ≤ 9223372036854775807 := by simp only [maxLen] at hcap; omega
 have hc2 : n2 ≤ 9223372036854775807 := hg.small.2
 obtain ⟨B, hB⟩ : ∃ B, B = kindMay x (callsB zs below) F := ⟨_, rfl⟩
 rw [← hB]
 have H := Lib.hid (And.intro hrec (And.intro hik (And.intro hnk hB)))
 have HP := Lib.hid (And.intro hplus (And.intro hcall hrank))
 clear ih hd hg hz hval hkids hx hF hrec hik hnk hle hcap hB hplus hcall hrank he2 hr hnz hzl
 obtain ⟨xk, xc0, xc1, xc2, xc3, xs, xr, xl, xkids⟩ := x
 simp only at hkb p0 p1 p2 p3 p4 p5 p6 p7
 have hW0 : Chg [] w ((w.alloc (.cells #[.slice a1 n1 c1, .slice (some ⟨bn, on, none⟩) n2 c2] 31)).alloc (.cells #[.int .i64 xk, .int .u64 xc0, .int .u64 xc1, .int .u64 xc2, .int .u64 xc3, .string xs, .int .i64 xr, .int .i64 xl, .slice ak nk ck] 65)) := ((Chg.refl [] w).alloc _).alloc _
 obtain ⟨w0, ew0⟩ : ∃ w0, w0 = ((w.alloc (.cells #[.slice a1 n1 c1, .slice (some ⟨bn, on, none⟩) n2 c2] 31)).alloc (.cells #[.int .i64 xk, .int .u64 xc0, .int .u64 xc1, .int .u64 xc2, .int .u64 xc3, .string xs, .int .i64 xr, .int .i64 xl, .slice ak nk ck] 65)) := ⟨_, rfl⟩
 have hbg : w0.heap[w.heap.size]? = some (.cells #[.slice a1 n1 c1, .slice (some ⟨bn, on, none⟩) n2 c2] 31 (0, 0)) := by rw [ew0]; exact heap_alloc_lt (heap_alloc_same _ _) _
 have hbx : w0.heap[w.heap.size + 1]? = some (.cells #[.int .i64 xk, .int .u64 xc0, .int .u64 xc1, .int .u64 xc2, .int .u64 xc3, .string xs, .int .i64 xr, .int .i64 xl, .slice ak nk ck] 65 (0, 0)) := by
  rw [ew0]
  have := heap_alloc_same (w.alloc (.cells #[.slice a1 n1 c1, .slice (some ⟨bn, on, none⟩) n2 c2] 31)) (.cells #[.int .i64 xk, .int .u64 xc0, .int .u64 xc1, .int .u64 xc2, .int .u64 xc3, .string xs, .int .i64 xr, .int .i64 xl, .slice ak nk ck] 65)
  rwa [World.size_alloc] at this
 rw [← ew0] at hW0
 have HE := Lib.hid ew0
 have HB := Lib.hid (And.intro hW0 (And.intro hbg hbx))
 clear ew0 hW0 hbg hbx
 go_enter Tryz.func164, Tryz.ntmps164
 by_cases he : xk = 1 ∨ xk = 8 ∨ xk = 10 ∨ xk = 11 ∨ xk = 12
 ·have hBt : B = true := by rw [H.out.2.2.2]; simp [kindMay, easyK, he]
  subst hBt
  rcases he with rfl | rfl | rfl | rfl | rfl
  all_goals go_wp2_with fail
  all_goals go_ret
  all_goals exact ⟨rfl, by have := HB.out.1; rw [HE.out] at this; exact this⟩
 by_cases h6 : xk = 6
 ·subst h6
  have hBt : B = xkids.all F := by rw [H.out.2.2.2]; simp [kindMay, easyK]
  have HBt := Lib.hid hBt
  clear hBt
  go_wp2_with fail
  rw [← HE.out]
  go_loopg [10] nk (fun dd iv wr => ∃ i : Nat, dd = nk - i ∧ i ≤ nk ∧ iv = .int .i64 i ∧ Hid (Chg [] w0 wr ∧ ∀ j (h : j < xkids.length), j < i → F xkids[j] = true))
  case atStart => exact ⟨0, rfl, Nat.zero_le _, rfl, Lib.hid ⟨Chg.refl _ _, fun j _ h => by omega⟩⟩
  case round =>
   obtain ⟨i, rfl, hi, rfl, hin⟩ := hrel
   obtain ⟨wq, rfl⟩ : ∃ wq, wq = wr := ⟨_, rfl⟩
   obtain ⟨x0, x1⟩ := cells2 (hin.out.1.heap HB.out.2.1 (by simp))
   obtain ⟨y0, y1, y2, y3, y4, y5, y6, y7, y8⟩ := cells9 (hin.out.1.heap HB.out.2.2 (by simp))
   by_cases hil : i < nk
   ·have hik : i < xkids.length := by rw [← H.out.2.2.1]; exact hil
    obtain ⟨bk, ok, rfl, hkc⟩ := (H.out.2.1.keep (HB.out.1.tr hin.out.1).kp) i hik
    have cA := calls_rg (w := wq) (fun w1 h1 => H.out.1 i hik w1 ((HB.out.1.tr hin.out.1).tr h1))
    try simp only at cA hkc
    obtain ⟨kv, hkv⟩ : ∃ kv, kv = xkids[i] := ⟨_, rfl⟩
    obtain ⟨fv, hfv⟩ : ∃ fv, fv = F kv := ⟨_, rfl⟩
    rw [← hkv] at hkc cA
    rw [← hfv] at cA
    have HK := Lib.hid (And.intro hkv hfv)
    have kx0 := cell_rg x0
    have kx1 := cell_rg x1
    have ky8 := cell_rg y8
    have kk := cell_rg hkc
    have hi1 : (i : Int) < nk := by omega
    clear hkv hfv x0 x1 y0 y1 y2 y3 y4 y5 y6 y7 hkc
    cases fv with
    | true =>
     go_wp2_with fail
     refine wp_region_quiet_below (by kernel_rfl) (by kernel_rfl) ?_
     repeat (go_big_quiet_step (with_reducible exact cA _ _))
     refine wpQuiet_nil ?_
     intro w7 hw7
     have HW := Lib.hid (hin.out.1.tr (chg_of_rg hw7))
     clear hw7 cA kx0 kx1 ky8 kk y8
     go_wp2_with fail
     go_roundg (nk - (i + 1))
     case measure => omega
     case rel =>
      refine ⟨i + 1, rfl, by omega, by go_num, Lib.hid ⟨HW.out, fun j h hj => ?_⟩⟩
      by_cases e : j = i
      ·subst e; rw [← HK.out.1, ← HK.out.2]
      ·exact hin.out.2 j h (by omega)
    | false =>
     go_wp2_with fail
     refine wp_region_quiet_below (by kernel_rfl) (by kernel_rfl) ?_
     repeat (go_big_quiet_step (with_reducible exact cA _ _))
     refine wpQuiet_nil ?_
     intro w7 hw7
     have HW := Lib.hid (hin.out.1.tr (chg_of_rg hw7))
     clear hw7 cA kx0 kx1 ky8 kk y8
     go_wp2_with fail
     go_ret
     refine ⟨ret_bool ?_, HB.out.1.tr HW.out⟩
     rw [HBt.out]
     symm
     rw [List.all_eq_false]
     exact ⟨_, List.getElem_mem hik, by rw [← HK.out.1, ← HK.out.2]; simp⟩
   ·obtain rfl : i = nk := by omega
    clear x0 x1 y0 y1 y2 y3 y4 y5 y6 y7
    go_wp2_with fail
    go_ret
    refine ⟨ret_bool ?_, HB.out.1.tr hin.out.1⟩
    rw [HBt.out]
    symm
    rw [List.all_eq_true]
    intro k hk
    obtain ⟨j, hj, rfl⟩ := List.getElem_of_mem hk
    exact hin.out.2 j hj (by rw [H.out.2.2.1]; exact hj)
 by_cases h7 : xk = 7
 ·subst h7
  have hBt : B = xkids.any F := by rw [H.out.2.2.2]; simp [kindMay, easyK]
  have HBt := Lib.hid hBt
  clear hBt
  go_wp2_with fail
  rw [← HE.out]
  go_loopg [11] nk (fun dd iv wr => ∃ i : Nat, dd = nk - i ∧ i ≤ nk ∧ iv = .int .i64 i ∧ Hid (Chg [] w0 wr ∧ ∀ j (h : j < xkids.length), j < i → F xkids[j] = false))
  case atStart => exact ⟨0, rfl, Nat.zero_le _, rfl, Lib.hid ⟨Chg.refl _ _, fun j _ h => by omega⟩⟩
  case round =>
   obtain ⟨i, rfl, hi, rfl, hin⟩ := hrel
   obtain ⟨wq, rfl⟩ : ∃ wq, wq = wr := ⟨_, rfl⟩
   obtain ⟨x0, x1⟩ := cells2 (hin.out.1.heap HB.out.2.1 (by simp))
   obtain ⟨y0, y1, y2, y3, y4, y5, y6, y7, y8⟩ := cells9 (hin.out.1.heap HB.out.2.2 (by simp))
   by_cases hil : i < nk
   ·have hik : i < xkids.length := by rw [← H.out.2.2.1]; exact hil
    obtain ⟨bk, ok, rfl, hkc⟩ := (H.out.2.1.keep (HB.out.1.tr hin.out.1).kp) i hik
    have cA := calls_rg (w := wq) (fun w1 h1 => H.out.1 i hik w1 ((HB.out.1.tr hin.out.1).tr h1))
    try simp only at cA hkc
    obtain ⟨kv, hkv⟩ : ∃ kv, kv = xkids[i] := ⟨_, rfl⟩
    obtain ⟨fv, hfv⟩ : ∃ fv, fv = F kv := ⟨_, rfl⟩
    rw [← hkv] at hkc cA
    rw [← hfv] at cA
    have HK := Lib.hid (And.intro hkv hfv)
    have kx0 := cell_rg x0
    have kx1 := cell_rg x1
    have ky8 := cell_rg y8
    have kk := cell_rg hkc
    have hi1 : (i : Int) < nk := by omega
    clear hkv hfv x0 x1 y0 y1 y2 y3 y4 y5 y6 y7 hkc
    cases fv with
    | false =>
     go_wp2_with fail
     refine wp_region_quiet_below (by kernel_rfl) (by kernel_rfl) ?_
     repeat (go_big_quiet_step (with_reducible exact cA _ _))
     refine wpQuiet_nil ?_
     intro w7 hw7
     have HW := Lib.hid (hin.out.1.tr (chg_of_rg hw7))
     clear hw7 cA kx0 kx1 ky8 kk y8
     go_wp2_with fail
     go_roundg (nk - (i + 1))
     case measure => omega
     case rel =>
      refine ⟨i + 1, rfl, by omega, by go_num, Lib.hid ⟨HW.out, fun j h hj => ?_⟩⟩
      by_cases e : j = i
      ·subst e; rw [← HK.out.1, ← HK.out.2]
      ·exact hin.out.2 j h (by omega)
    | true =>
     go_wp2_with fail
     refine wp_region_quiet_below (by kernel_rfl) (by kernel_rfl) ?_
     repeat (go_big_quiet_step (with_reducible exact cA _ _))
     refine wpQuiet_nil ?_
     intro w7 hw7
     have HW := Lib.hid (hin.out.1.tr (chg_of_rg hw7))
     clear hw7 cA kx0 kx1 ky8 kk y8
     go_wp2_with fail
     go_ret
     refine ⟨ret_bool ?_, HB.out.1.tr HW.out⟩
     rw [HBt.out]
     symm
     rw [List.any_eq_true]
     exact ⟨_, List.getElem_mem hik, by rw [← HK.out.1, ← HK.out.2]⟩
   ·obtain rfl : i = nk := by omega
    clear x0 x1 y0 y1 y2 y3 y4 y5 y6 y7
    go_wp2_with fail
    go_ret
    refine ⟨ret_bool ?_, HB.out.1.tr hin.out.1⟩
    rw [HBt.out]
    symm
    rw [List.any_eq_false]
    intro k hk
    obtain ⟨j, hj, rfl⟩ := List.getElem_of_mem hk
    rw [hin.out.2 j hj (by rw [H.out.2.2.1]; exact hj)]
    simp
 by_cases h9 : xk = 9
 ·subst h9
  have hl := HP.out.1 rfl
  simp only at hl
  have h0l : 0 < xkids.length := by omega
  have hnk1 : 0 < nk := by have := H.out.2.2.1; simp only at this; omega
  obtain ⟨bk, ok, rfl, hkc⟩ := (H.out.2.1.keep HB.out.1.kp) 0 h0l
  have cA := calls_rg (w := w0) (fun w1 h1 => H.out.1 0 h0l w1 (HB.out.1.tr h1))
  have hBt : B = F xkids[0] := by
   rw [H.out.2.2.2]
   obtain ⟨kv, hkv⟩ := List.length_eq_one_iff.1 hl
   simp [kindMay, easyK, hkv]
  try simp only at cA hkc
  obtain ⟨kv, hkv⟩ : ∃ kv, kv = xkids[0] := ⟨_, rfl⟩
  rw [← hkv] at hkc cA hBt
  rw [← hBt] at cA
  rw [Nat.add_zero] at hkc
  have HKV := Lib.hid hkv
  clear hkv
  obtain ⟨x0, x1⟩ := cells2 HB.out.2.1
  obtain ⟨y0, y1, y2, y3, y4, y5, y6, y7, y8⟩ := cells9 HB.out.2.2
  have kx0 := cell_rg x0
  have kx1 := cell_rg x1
  have ky8 := cell_rg y8
  have kk := cell_rg hkc
  clear x0 x1 y0 y1 y2 y3 y4 y5 y6 y7 y8 hkc hBt hl
  go_wp2_with fail
  rw [← HE.out]
  refine wp_region_quiet_below (by kernel_rfl) (by kernel_rfl) ?_
  repeat (go_big_quiet_step (with_reducible exact cA _ _))
  refine wpQuiet_nil ?_
  intro w7 hw7
  have HW := Lib.hid (HB.out.1.tr (chg_of_rg hw7))
  clear hw7 cA kx0 kx1 ky8 kk
  go_wp2_with fail
  go_ret
  exact ⟨rfl, HW.out⟩
 by_cases h5 : xk = 5
 ·subst h5
  obtain ⟨h1, h2⟩ := HP.out.2.1 rfl
  obtain ⟨z, bz, oz, rfl, hzc, hcv⟩ := HP.out.2.2 rfl
  simp only at h1 h2 hzc hcv
  obtain ⟨q, rfl⟩ : ∃ q : Nat, xr = (q : Int) := ⟨xr.toNat, by omega⟩
  simp only [Int.toNat_natCast] at hzc
  have hBt : B = (decide (0 < z) && decide (z < below)) := by rw [H.out.2.2.2]; simp [kindMay, easyK, hcv]
  subst hBt
  have hzc2 := HB.out.1.cell hzc (by simp)
  rw [HE.out] at hzc2
  have hlz := World.block_lt_of_cell? _ _ hzc
  simp only at hlz
  have hq1 : q < nz := by omega
  have HW := Lib.hid HB.out.1
  clear hzc2 hcv
  by_cases hz1 : 0 < z
  ·rw [decide_eq_true hz1, Bool.true_and]
   go_wp2_with fail
   go_ret
   exact ⟨rfl, by have := HB.out.1; rw [HE.out] at this; exact this⟩
  ·rw [decide_eq_false hz1, Bool.false_and]
   go_wp2_with fail
   go_ret
   exact ⟨rfl, by have := HB.out.1; rw [HE.out] at this; exact this⟩
 have hBt : B = false := by
  rw [H.out.2.2.2]
  simp only [kindMay, easyK, if_neg (show ¬ decide (xk = 1 ∨ xk = 8 ∨ xk = 10 ∨ xk = 11 ∨ xk = 12) = true by simpa using he)]
  rw [if_neg (by simp [h6, h9]), if_neg h7, if_neg h5]
 subst hBt
 rcases (show xk = 2 ∨ xk = 3 ∨ xk = 4 by omega) with rfl | rfl | rfl
 all_goals go_wp2_with fail
 all_goals go_ret
 all_goals exact ⟨rfl, by have := HB.out.1; rw [HE.out] at this; exact this⟩
end Go.Proofs.YtlklmpjakeedcaaGreatDoor

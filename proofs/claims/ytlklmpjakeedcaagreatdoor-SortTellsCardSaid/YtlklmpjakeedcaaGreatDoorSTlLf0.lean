/-
  What may match nothing: a node, a rule, a rank, all rules, all nodes.
  Conditions: the grammar reads as data, within the reach.
-/
import Derived.Test.YtlklmpjakeedcaaGreatDoorSTlNuD
import Derived.Test.YtlklmpjakeedcaaGreatDoorSTlGCopy
set_option linter.unusedVariables false
set_option linter.unusedSimpArgs false
namespace Go.Proofs.YtlklmpjakeedcaaGreatDoor
open Go.RowKit Go.MapKept Go.Shelf

/-! ### The answers -/
def pickL (n : Nat) (F : Nat → Bool) : List Int := ((List.range n).filter F).map fun (i : Nat) => (i : Int)
theorem pickL_succ (n : Nat) (F : Nat → Bool) : pickL (n + 1) F = pickL n F ++ if F n then [(n : Int)] else [] := by
  simp only [pickL, List.range_succ, List.filter_append, List.map_append]
  congr 1
  by_cases h : F n <;> simp [h]
theorem pickL_le (n : Nat) (F : Nat → Bool) : (pickL n F).length ≤ n := by
  have := List.length_filter_le F (List.range n)
  simpa [pickL] using this
def nodesN (g : Gr) : List Int := if rightB g then pickL g.nodes.length (fun n => mayG g n) else []
theorem callsL_end (g : Gr) : mayN g.nodes (callsL (ranksL g g.rules.length)) = mayG g := by rw [callsL_ranks]; rfl

set_option maxRecDepth 100000 in
set_option maxHeartbeats 2000000 in
theorem which2_any (w : World) (f p many : Nat) (F : Nat → Bool) (hm : many ≤ 100000) (hc : ∀ w1, Chg [] w w1 → ∀ k, k < many → Calls Tryz.prog f #[.pointer (some ⟨p, 0, none⟩), .int .i64 k] w1 fun e w' => e = .returned (.bool (F k)) ∧ Chg [] w1 w')
    (eg : ∀ args w, (callFunc f args).run Tryz.prog w = .ok (.enter f args) w) :
    Calls Tryz.prog 104 #[.int .i64 many, .func (.func f) #[.pointer (some ⟨p, 0, none⟩)] #[]] w (ClonedInts w (pickL many F)) := by
  obtain ⟨i0, hin, hz0, hz1, hz2⟩ := info_parts Tryz.infoInt
  have H := Lib.hid hc
  clear hc
  go_enter Tryz.func104, Tryz.ntmps104
  go_wp2_with fail
  go_loopg [7, 4] many (fun d iv ov wr => ∃ (k : Nat) (a' : Option Addr) (c' q : Nat), d = many - k ∧ k ≤ many ∧ iv = .int .i64 k ∧ ov = .slice a' q c' ∧ Hid (Chg [] w wr ∧ FreshInts w.heap.size wr a' c' (pickL k F) ∧ q = (pickL k F).length))
  case atStart => exact ⟨0, none, 0, 0, rfl, Nat.zero_le _, rfl, rfl, Lib.hid ⟨Chg.refl _ _, World.ownsRow_nil _ _ _ _, rfl⟩⟩
  case round =>
    obtain ⟨k, a', c', q, rfl, hk, rfl, rfl, hin2⟩ := hrel
    obtain ⟨wq, rfl⟩ : ∃ wz, wz = wr := ⟨_, rfl⟩
    by_cases hlt : k < many
    · obtain ⟨r, hr⟩ : ∃ r, r = F k := ⟨_, rfl⟩
      have hcall := H.out wq hin2.out.1 k hlt
      rw [← hr] at hcall
      have HR := Lib.hid (And.intro hr hcall)
      clear hr hcall
      go_wp2_with fail
      refine HR.out.2.mono ?_
      rintro e w3 ⟨rfl, hc3⟩
      have H3 := Lib.hid hc3
      clear hc3
      cases r with
      | true =>
        have hrow3 := H3.out.row hin2.out.2.1 (fun _ _ => by simp)
        have h1' : ∀ u ∈ [Value.int .i64 (k : Int)], u.oneCell' = true := by simp [Value.oneCell']
        have hq := pickL_le k F
        have hqe := hin2.out.2.2
        have h2' : q + 1 ≤ maxLen ∧ (q + 1) * 8 ≤ 140737488355328 := by simp only [maxLen]; omega
        have hnew := cells_at (w := w3.alloc (.cells #[.int .i64 k] 3)) (heap_alloc_same _ _)
        have hsz := (hin2.out.1.tr H3.out).size
        rw [← hqe] at hrow3
        have H4 := Lib.hid (And.intro (World.ownsRow.alloc hrow3 (.cells #[.int .i64 k] 3)) (And.intro h1' (And.intro h2' (And.intro hnew (And.intro hsz ((hin2.out.1.tr H3.out).alloc (.cells #[.int .i64 k] 3)))))))
        clear hrow3 h1' h2' hnew hsz hq hqe
        go_wp2_with (at_builtin; refine wpList_append_own_at _ rfl _ _ 34 rfl w.heap.size 3 i0 _ 1 8 Tryz.underlying34 hin hz0 hz1 hz2 rfl (by decide) (.slice a' q c') q ((pickL k F).map (Value.int .i64)) rfl H4.out.1 ⟨w3.heap.size, 0, none⟩ 1 1 [.int .i64 k] rfl rfl H4.out.2.2.2.1 H4.out.2.1 H4.out.2.2.1.1 H4.out.2.2.1.2 (by have := H4.out.2.2.2.2.1; rw [World.size_alloc]; omega) ?_; intro v' w5 hr5 hg5 hn5 hb5; obtain ⟨a5, c5, rfl⟩ := ownsRow_slice hr5; have HW := Lib.hid (And.intro hr5 hg5); clear hr5 hg5 hn5 hb5)
        go_roundg (many - (k + 1))
        case measure => omega
        case rel =>
          have hnl : pickL (k + 1) F = pickL k F ++ [(k : Int)] := by rw [pickL_succ, ← HR.out.1]; rfl
          refine ⟨k + 1, a5, c5, q + 1, rfl, by omega, by go_num, rfl, Lib.hid ⟨?_, ?_, ?_⟩⟩
          · refine H4.out.2.2.2.2.2.grown HW.out.2 (fun i hi => .inr ?_)
            have := hin2.out.2.1
            rw [FreshInts, ← hin2.out.2.2] at this
            exact (row_beyond this hi).1
          · rw [FreshInts, hnl, List.length_append, ← hin2.out.2.2, List.map_append]
            exact HW.out.1
          · rw [hnl, List.length_append, ← hin2.out.2.2]; rfl
      | false =>
        go_wp2_with fail
        go_roundg (many - (k + 1))
        case measure => omega
        case rel =>
          have hnl : pickL (k + 1) F = pickL k F := by rw [pickL_succ, ← HR.out.1]; simp
          exact ⟨k + 1, a', c', q, rfl, by omega, by go_num, rfl, Lib.hid ⟨hin2.out.1.tr H3.out, by rw [hnl]; exact H3.out.row hin2.out.2.1 (fun _ _ => by simp), by rw [hnl]; exact hin2.out.2.2⟩⟩
    · obtain rfl : k = many := by omega
      go_wp2_with fail
      go_ret
      exact ⟨a', c', by rw [← hin2.out.2.2]; rfl, hin2.out.2.1, hin2.out.1⟩

set_option maxRecDepth 100000 in
set_option maxHeartbeats 2000000 in
theorem nullNodes_any (w : World) (a1 : Option Addr) (n1 c1 : Nat) (a2 : Option Addr) (n2 c2 : Nat) (g : Gr) (hg : GramAt w a1 n1 c1 a2 n2 c2 g) (hre : Reach g) :
    Calls Tryz.prog 73 #[.agg #[.slice a1 n1 c1, .slice a2 n2 c2]] w (ClonedInts w (nodesN g)) := by
  have he2 := hg.e2
  obtain ⟨A, hA⟩ : ∃ A, A = nodesN g := ⟨_, rfl⟩
  rw [← hA]
  have H := Lib.hid (And.intro hg (And.intro hre (And.intro he2 hA)))
  clear hg hre he2 hA
  go_enter Tryz.func73, Tryz.ntmps73
  obtain ⟨x0, x1⟩ := cells2 (heap_alloc_same w (.cells #[.slice a1 n1 c1, .slice a2 n2 c2] 31))
  go_wp2_with fail
  refine (ofNull_any _ a1 n1 c1 a2 n2 c2 g (H.out.1.keep ((Chg.refl [] w).alloc _).kp) H.out.2.1).mono ?_
  rintro e w2 ⟨hc2, hif⟩
  have hg2 := hc2.heap (heap_alloc_same w (.cells #[.slice a1 n1 c1, .slice a2 n2 c2] 31)) (by simp)
  have hcw := ((Chg.refl [] w).alloc _).tr0 hc2
  clear x0 x1 hc2
  obtain ⟨x0, x1⟩ := cells2 hg2
  cases hr : rightB g with
  | false =>
    rw [hr] at hif
    obtain rfl : e = _ := hif
    have e0 : nodesN g = [] := by simp [nodesN, hr]
    have e1 := H.out.2.2.2.trans e0
    subst e1
    have HC := Lib.hid hcw
    clear hcw hr hg2
    go_wp2_with fail
    go_ret
    exact ⟨none, 0, rfl, World.ownsRow_nil _ _ _ _, HC.out⟩
  | true =>
    rw [hr, if_pos rfl] at hif
    obtain ⟨B, R, m, rfl, hw⟩ := hif
    have e0 : nodesN g = pickL g.nodes.length (fun n => mayG g n) := by simp [nodesN, hr]
    have e1 := H.out.2.2.2.trans e0
    subst e1
    have hwhich := which2_any w2 105 B n2 (fun n => mayG g n) (by have := (right_sizes hr).2.2; have := H.out.2.2.1; omega)
      (fun w1 h1 k hk => by
        have h2 := may_any B R m a1 n1 c1 a2 n2 c2 g _ (falls_right hr) (by rw [hw.gram.e1]; exact right_calls hr) g.nodes.length k (by omega) (by have := H.out.2.2.1; omega) w1 (hw.chg h1)
        rw [callsL_end] at h2
        exact h2) (enters_of Tryz.func105 (by kernel_rfl) rfl)
    have HC := Lib.hid (And.intro hcw hwhich)
    clear hcw hr hg2 hw hwhich
    go_wp2_with fail
    refine HC.out.2.mono ?_
    rintro e w3 ⟨a', c', rfl, hf, hc3⟩
    have H3 := Lib.hid (And.intro hf hc3)
    clear hf hc3
    go_wp2_with fail
    go_ret
    obtain ⟨hf, hc3⟩ := H3.out
    rw [H.out.2.2.1] at hf
    exact ⟨a', c', by rw [H.out.2.2.1]; rfl, row_base hf HC.out.1.size, HC.out.1.tr hc3⟩
end Go.Proofs.YtlklmpjakeedcaaGreatDoor
set_option linter.unusedVariables false
set_option linter.unusedSimpArgs false
namespace Go.Proofs.YtlklmpjakeedcaaGreatDoor
open Go.RowKit Go.MapKept Go.Shelf

/-! ### Rows of truths -/
def rowB (bs : List Bool) : Obj := .cells (bs.map Value.bool).toArray 4 (0, 0)
theorem Tryz.infoBool : (Tryz.prog.info? 4).map (fun i => (i.zero, i.size, i.bytes)) = some (some (.bool false), 1, 1) := by kernel_rfl
theorem run_falses (n : Nat) (hn : n ≤ 1099511627776) (w : World) : (Instr.makeSlice 108 (.int .i64 n) (.int .i64 n)).run Tryz.prog w = .ok (.slice (some ⟨w.heap.size, 0, none⟩) n n) (w.alloc (rowB (List.replicate n false))) := by
  obtain ⟨i0, hi, hz0, hz1, hz2⟩ := info_parts Tryz.infoBool
  have h1 := run_make (P := Tryz.prog) w 108 4 i0 (.bool false) Tryz.underlying108 hi hz0 .i64 .i64 n n (by omega) (by omega) (by rw [hz2]; omega) (by omega)
  rw [h1]
  simp only [Int.toNat_natCast, hz1, rowB]
  have : madeCells (Value.bool false).cells (n * 1) = (List.map Value.bool (List.replicate n false)).toArray := by
    apply Array.ext
    · simp [madeCells]
    · intro i h1 h2
      simp [madeCells, Value.cells, Nat.mod_one]
  rw [this]
theorem rowB_cell {w : World} {b i : Nat} {bs : List Bool} {x : Bool} (h : w.heap[b]? = some (rowB bs)) (hx : bs[i]? = some x) : w.cell? ⟨b, i, none⟩ = some (.bool x) := by
  rw [cell_of_cells h]
  simp [hx]
theorem rowB_free {w : World} {b : Nat} {bs : List Bool} (h : w.heap[b]? = some (rowB bs)) (i : Nat) : w.frozen? ⟨b, i, none⟩ = false := free_of_cells h i
theorem rowB_set {w : World} {b i : Nat} {bs : List Bool} (x : Bool) (h : w.heap[b]? = some (rowB bs)) : (w.setCell ⟨b, i, none⟩ (.bool x)).heap[b]? = some (rowB (bs.set i x)) := by
  rw [heap_setCell_same h]
  simp [rowB, List.map_set]

/-! ### Which are told -/
/-- What the first k of the told nodes say. -/
def toldAt (g : Gr) (k : Nat) : List Bool := (List.range g.nodes.length).map fun (j : Nat) => decide ((j : Int) ∈ (nodesN g).take k)
theorem toldAt_len (g : Gr) (k : Nat) : (toldAt g k).length = g.nodes.length := by simp [toldAt]
theorem toldAt_zero (g : Gr) : toldAt g 0 = List.replicate g.nodes.length false := by
  apply List.ext_getElem
  · simp [toldAt]
  · intro j h1 h2; simp [toldAt]
theorem nodesN_at {g : Gr} {k : Nat} {z : Int} (h : (nodesN g)[k]? = some z) : ∃ q : Nat, z = q ∧ q < g.nodes.length := by
  have h1 := List.mem_of_getElem? h
  unfold nodesN at h1
  split at h1
  · simp only [pickL, List.mem_map, List.mem_filter, List.mem_range] at h1
    obtain ⟨q, ⟨h2, _⟩, rfl⟩ := h1
    exact ⟨q, rfl, h2⟩
  · cases h1
theorem toldAt_succ {g : Gr} {k q : Nat} (h : (nodesN g)[k]? = some (q : Int)) : toldAt g (k + 1) = (toldAt g k).set q true := by
  apply List.ext_getElem
  · simp [toldAt]
  · intro i h1 h2
    rw [List.getElem_set]
    simp only [toldAt, List.getElem_map, List.getElem_range, List.take_add_one, h, Option.toList_some, List.mem_append, List.mem_singleton]
    by_cases hq : q = i
    · subst hq
      rw [if_pos rfl]; simp
    · rw [if_neg hq]
      have : ¬ ((i : Int) = (q : Int)) := by omega
      simp [this]
end Go.Proofs.YtlklmpjakeedcaaGreatDoor
set_option linter.unusedVariables false
set_option linter.unusedSimpArgs false
namespace Go.Proofs.YtlklmpjakeedcaaGreatDoor
open Go.RowKit Go.MapKept Go.Shelf

/-! ### What a Kind says -/
def kindSay (x : Nd) (C F : Int → Bool) : Bool :=
  if x.k = 2 ∨ x.k = 3 ∨ x.k = 4 then false else if x.k = 6 ∨ x.k = 9 then x.kids.all F else if x.k = 7 then x.kids.any F else if x.k = 5 then C x.r else true
theorem right_kind {g : Gr} (h : rightB g = true) {n : Nat} (hn : n < g.nodes.length) : 1 ≤ g.nodes[n].k ∧ g.nodes[n].k ≤ 12 := by
  have h1 := right_node h hn
  unfold nodeB nodeN at h1
  repeat' split at h1
  all_goals first | omega | cases h1
def atB (bs : List Bool) (k : Int) : Bool := (bs[k.toNat]?).getD false

end Go.Proofs.YtlklmpjakeedcaaGreatDoor
set_option linter.unusedVariables false
set_option linter.unusedSimpArgs false
namespace Go.Proofs.YtlklmpjakeedcaaGreatDoor

def kidsOwn (k : Int) (N : Int → Bool) (F : Int → List Int) : List Int → List Int
  | [] => []
  | z :: zs => F z ++ (if k = 6 ∧ N z = false then [] else kidsOwn k N F zs)
def ownF (ns : List Nd) (N : Int → Bool) : Nat → Int → List Int
  | 0, _ => []
  | f + 1, n => if n < 0 then [] else match ns[n.toNat]? with | none => [] | some x => n :: kidsOwn x.k N (ownF ns N f) x.kids
/-- The nodes at a node's own place, in preorder; N: which may match nothing. -/
def ownN (ns : List Nd) (N : Int → Bool) (n : Int) : List Int := ownF ns N ns.length n
theorem kidsOwn_congr {k : Int} {N M : Int → Bool} {F G : Int → List Int} : ∀ (zs : List Int), (∀ z ∈ zs, F z = G z) → (∀ z ∈ zs, N z = M z) → kidsOwn k N F zs = kidsOwn k M G zs := by
  intro zs
  induction zs with
  | nil => intro _ _; rfl
  | cons z zs ih =>
    intro h1 h2
    simp only [kidsOwn]
    rw [h1 z (by simp), h2 z (by simp), ih (fun q hq => h1 q (by simp [hq])) (fun q hq => h2 q (by simp [hq]))]
theorem ownF_fuel {ns : List Nd} (hf : Falls ns) (N : Int → Bool) : ∀ (d : Nat) (n : Nat) (f g : Nat), ns.length - n ≤ d → ns.length - n ≤ f → ns.length - n ≤ g → ownF ns N f n = ownF ns N g n := by
  intro d
  induction d with
  | zero =>
    intro n f g hd h1 h2
    have hn : ns[n]? = none := List.getElem?_eq_none (by omega)
    have key : ∀ f, ownF ns N f n = [] := fun f => by
      cases f with
      | zero => rfl
      | succ f => simp [ownF, hn]
    rw [key, key]
  | succ d ih =>
    intro n f g hd h1 h2
    by_cases hn : n < ns.length
    · cases f with
      | zero => omega
      | succ f =>
        cases g with
        | zero => omega
        | succ g =>
          have hx : ns[n]? = some ns[n] := List.getElem?_eq_getElem hn
          simp only [ownF, Int.toNat_natCast, hx]
          split
          · rfl
          · congr 1
            refine kidsOwn_congr _ (fun k hk => ?_) (fun _ _ => rfl)
            obtain ⟨k1, k2⟩ := hf n hn k hk
            obtain ⟨j, rfl⟩ : ∃ j : Nat, k = j := ⟨k.toNat, by omega⟩
            exact ih j f g (by omega) (by omega) (by omega)
    · have hn : ns[n]? = none := List.getElem?_eq_none (by omega)
      have key : ∀ f, ownF ns N f n = [] := fun f => by
        cases f with
        | zero => rfl
        | succ f => simp [ownF, hn]
      rw [key, key]
theorem ownN_eq {ns : List Nd} (hf : Falls ns) (N : Int → Bool) {n : Nat} (hn : n < ns.length) : ownN ns N n = (n : Int) :: kidsOwn ns[n].k N (ownN ns N) ns[n].kids := by
  unfold ownN
  rw [ownF_fuel hf N ns.length n ns.length (ns.length + 1) (by omega) (by omega) (by omega)]
  have hx : ns[n]? = some ns[n] := List.getElem?_eq_getElem hn
  simp only [ownF, Int.toNat_natCast, hx, if_neg (show ¬ ((n : Int) < 0) by omega)]
theorem kidsOwn_mem {k : Int} {N : Int → Bool} {F : Int → List Int} {x : Int} : ∀ (zs : List Int), x ∈ kidsOwn k N F zs → ∃ z ∈ zs, x ∈ F z := by
  intro zs
  induction zs with
  | nil => intro h; cases h
  | cons z zs ih =>
    intro h
    simp only [kidsOwn, List.mem_append] at h
    rcases h with h | h
    · exact ⟨z, by simp, h⟩
    · split at h
      · cases h
      · obtain ⟨q, hq, hx⟩ := ih h
        exact ⟨q, by simp [hq], hx⟩
theorem ownN_in {ns : List Nd} (hf : Falls ns) (N : Int → Bool) {n : Nat} (hn : n < ns.length) : ∀ x ∈ ownN ns N n, ∃ q : Nat, x = q ∧ n ≤ q ∧ q < ns.length := by
  have key : ∀ d n, ns.length - n ≤ d → n < ns.length → ∀ x ∈ ownN ns N n, ∃ q : Nat, x = q ∧ n ≤ q ∧ q < ns.length := by
    intro d
    induction d with
    | zero => intro n _ _; omega
    | succ d ih =>
      intro n hd hn x hx
      rw [ownN_eq hf N hn] at hx
      rcases List.mem_cons.1 hx with rfl | hx
      · exact ⟨n, rfl, Nat.le_refl _, hn⟩
      · obtain ⟨z, hz, hx⟩ := kidsOwn_mem _ hx
        obtain ⟨k1, k2⟩ := hf n hn z hz
        obtain ⟨j, rfl⟩ : ∃ j : Nat, z = j := ⟨z.toNat, by omega⟩
        obtain ⟨q, h1, h2, h3⟩ := ih j (by omega) (by omega) x hx
        exact ⟨q, h1, by omega, h3⟩
  exact key _ n (Nat.le_refl _) hn
def ownG (g : Gr) (n : Int) : List Int := ownN g.nodes (mayG g) n

/-! ### The rules that are called -/
def isCall (ns : List Nd) (k : Int) (r : Nat) : Bool := match ns[k.toNat]? with | none => false | some x => decide (x.k = 5) && decide (x.r = r)
/-- Which rules some nodes call. -/
def metL (ns : List Nd) (l : List Int) : List Bool := (List.range 32).map fun r => l.any fun k => isCall ns k r
theorem metL_len (ns : List Nd) (l : List Int) : (metL ns l).length = 32 := by simp [metL]
theorem metL_nil (ns : List Nd) : metL ns [] = List.replicate 32 false := by
  simp only [metL, List.any_nil]
  rfl
theorem isCall_at {ns : List Nd} {q : Nat} (hq : q < ns.length) (r : Nat) : isCall ns q r = (decide (ns[q].k = 5) && decide (ns[q].r = r)) := by
  simp [isCall, List.getElem?_eq_getElem hq]
theorem metL_skip {ns : List Nd} {l : List Int} {q : Nat} (hq : q < ns.length) (hk : ns[q].k ≠ 5) : metL ns (l ++ [(q : Int)]) = metL ns l := by
  refine List.map_congr_left (fun r _ => ?_)
  rw [List.any_append]
  simp [isCall_at hq, hk]
theorem metL_put {ns : List Nd} {l : List Int} {q : Nat} (hq : q < ns.length) (hk : ns[q].k = 5) {r : Nat} (hr : ns[q].r = r) : metL ns (l ++ [(q : Int)]) = (metL ns l).set r true := by
  refine List.ext_getElem (by simp [metL]) (fun i h1 h2 => ?_)
  have hi : i < 32 := by simpa [metL] using h1
  rw [List.getElem_set]
  simp only [metL, List.getElem_map, List.getElem_range, List.any_append, List.any_cons, List.any_nil, Bool.or_false, isCall_at hq, hk, hr]
  by_cases e : r = i
  · subst e; simp
  · have : ¬ ((r : Int) = (i : Int)) := by omega
    simp [e, this]
/-- The rules that a node calls at its own place. -/
def callsG (g : Gr) (n : Int) : List Int := pickL 32 (fun r => (ownG g n).any fun k => isCall g.nodes k r)
/-- What lists of truths tell. -/
def pickB (bs : List Bool) : List Int := pickL bs.length (fun i => bs.getD i false)
theorem callsG_pick (g : Gr) (n : Int) : callsG g n = pickB (metL g.nodes (ownG g n)) := by
  unfold callsG pickB
  rw [metL_len]
  simp only [pickL]
  refine congrArg _ (List.filter_congr (fun i hi => ?_))
  rw [List.mem_range] at hi
  simp [metL, List.getD, hi]
/-- Which nodes may match nothing. -/
def nullB (g : Gr) : List Bool := (List.range g.nodes.length).map fun (j : Nat) => mayG g (j : Int)
theorem nullB_at {g : Gr} {j : Nat} (hj : j < g.nodes.length) : (nullB g)[j]? = some (mayG g (j : Int)) := by simp [nullB, hj]
theorem told_null {g : Gr} (hr : rightB g = true) : toldAt g (nodesN g).length = nullB g := by
  apply List.ext_getElem
  · simp [toldAt, nullB]
  · intro i h1 h2
    have hi : i < g.nodes.length := by simpa [toldAt] using h1
    simp only [toldAt, nullB, List.getElem_map, List.getElem_range, List.take_length]
    rw [Bool.eq_iff_iff, decide_eq_true_eq]
    unfold nodesN
    rw [if_pos hr]
    simp only [pickL, List.mem_map, List.mem_filter, List.mem_range]
    constructor
    · rintro ⟨q, ⟨h3, h4⟩, h5⟩
      obtain rfl : q = i := by omega
      exact h4
    · intro h; exact ⟨i, ⟨hi, h⟩, rfl⟩
def graphG (g : Gr) : List (List Int) := if rightB g then g.rules.map (fun r => callsG g r.body) else []
end Go.Proofs.YtlklmpjakeedcaaGreatDoor
set_option linter.unusedVariables false
set_option linter.unusedSimpArgs false
namespace Go.Proofs.YtlklmpjakeedcaaGreatDoor

abbrev Stp := Int × Int
abbrev Bst := List Bool × List Stp
def on1 (fr z : Int) (st : Bst) : Bst := if st.1.getD z.toNat false then st else (st.1.set z.toNat true, st.2 ++ [(z, fr)])
def onL (fr : Int) : List Int → Bst → Bst
  | [], st => st
  | z :: zs, st => onL fr zs (on1 fr z st)
def walkF (G : List (List Int)) : Nat → Nat → Bst → Bst
  | 0, _, st => st
  | f + 1, k, st => match st.2[k]? with | none => st | some s => walkF G f (k + 1) (onL (k : Int) (G.getD s.1.toNat []) st)
def start0 : Bst := (List.replicate 32 false, [])
def walkL (G : List (List Int)) (i : Nat) : Bst := walkF G 33 0 (onL (-1) (G.getD i []) start0)
/-- What holds of each state. -/
structure BstOk (n : Nat) (st : Bst) : Prop where
  len : st.1.length = 32
  rules : ∀ s ∈ st.2, 0 ≤ s.1 ∧ s.1 < n
  nodup : (st.2.map (·.1)).Nodup
  met : ∀ r : Nat, st.1.getD r false = true ↔ (r : Int) ∈ st.2.map (·.1)
  few : n ≤ 32
/-- A graph among n numbers. -/
structure GraphOk (n : Nat) (G : List (List Int)) : Prop where
  len : G.length = n
  ins : ∀ zs ∈ G, ∀ z ∈ zs, 0 ≤ z ∧ z < n
  few : n ≤ 32
  rows : ∀ zs ∈ G, zs.length ≤ 32
theorem GraphOk.at {n : Nat} {G : List (List Int)} (h : GraphOk n G) (i : Nat) : ∀ z ∈ G.getD i [], 0 ≤ z ∧ z < n := by
  intro z hz
  by_cases hi : i < G.length
  · rw [List.getD, List.getElem?_eq_getElem hi] at hz
    exact h.ins _ (List.getElem_mem hi) z hz
  · rw [List.getD, List.getElem?_eq_none (by omega)] at hz
    cases hz
theorem pickL_in {n : Nat} {F : Nat → Bool} {z : Int} (h : z ∈ pickL n F) : ∃ q : Nat, z = q ∧ q < n ∧ F q = true := by
  simp only [pickL, List.mem_map, List.mem_filter, List.mem_range] at h
  obtain ⟨q, ⟨h1, h2⟩, rfl⟩ := h
  exact ⟨q, rfl, h1, h2⟩
theorem graph_ok {g : Gr} (hr : rightB g = true) : GraphOk g.rules.length (graphG g) := by
  have hs := right_sizes hr
  have e : graphG g = g.rules.map (fun r => callsG g r.body) := by simp [graphG, hr]
  refine ⟨by rw [e]; simp, ?_, hs.2.1, ?_⟩
  · intro zs hzs z hz
    rw [e] at hzs
    obtain ⟨r, hr2, rfl⟩ := List.mem_map.1 hzs
    obtain ⟨q, rfl, hq, hf⟩ := pickL_in hz
    obtain ⟨k, hk, hc⟩ := List.any_eq_true.1 hf
    unfold isCall at hc
    split at hc
    · cases hc
    · rename_i x hx
      simp only [Bool.and_eq_true, decide_eq_true_eq] at hc
      have := right_calls hr x (List.mem_of_getElem? hx) hc.1
      rw [hc.2] at this
      exact this
  · intro zs hzs
    rw [e] at hzs
    obtain ⟨r, hr2, rfl⟩ := List.mem_map.1 hzs
    exact pickL_le _ _
theorem pickL_sorted (n : Nat) (F : Nat → Bool) : (pickL n F).Pairwise (· < ·) := by
  unfold pickL
  rw [List.pairwise_map]
  refine (List.Pairwise.filter _ (List.pairwise_lt_range)).imp ?_
  intro a b h
  omega
theorem mem_pickL {n : Nat} {F : Nat → Bool} {x : Int} : x ∈ pickL n F ↔ ∃ q : Nat, x = q ∧ q < n ∧ F q = true := by
  simp only [pickL, List.mem_map, List.mem_filter, List.mem_range]
  constructor
  · rintro ⟨q, ⟨h1, h2⟩, rfl⟩; exact ⟨q, rfl, h1, h2⟩
  · rintro ⟨q, rfl, h1, h2⟩; exact ⟨q, ⟨h1, h2⟩, rfl⟩
end Go.Proofs.YtlklmpjakeedcaaGreatDoor

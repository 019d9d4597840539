/-
  Sets of rules in memory: maps from numbers to 1; put, told rising, cloned.
  Conditions: none.
-/
import Derived.Test.YtnajhcoimohcaaaSmHd0
import Derived.Test.YtnajhcoimohcaaaSmHdShelf
import Derived.Test.YtnajhcoimohcaaaSmGApp
import Derived.Maps.Keyed
import Derived.Shelf.AbstractIn
set_option linter.unusedVariables false
set_option linter.unusedSimpArgs false
set_option linter.unnecessarySimpa false
namespace Go.Proofs.Ytnajhcoimohcaaa
open Go.RowKit Go.MapKept Go.Maps Go.Sort Go.Shelf

abbrev one1 : Value := .int .i64 1
def setF (T : List Int) : Int → Option Value := fun k => if k ∈ T then some one1 else none
/-- Block b is a map that holds 1 at each number of T, and nothing else. -/
structure SetIs (w : World) (b : Nat) (T : List Int) : Prop where
  map : MapIs Try.prog 3 (Value.int .i64) w b (setF T)
  wf : ∀ z ∈ T, I64 z
  rises : Rises T
theorem SetIs.lt {w : World} {b : Nat} {T : List Int} (h : SetIs w b T) : b < w.heap.size := h.map.lt
theorem SetIs.chg {w w' : World} {S : List Nat} {b : Nat} {T : List Int} (h : SetIs w b T) (hc : Chg S w w') (hn : b ∉ S) : SetIs w' b T := ⟨h.map.chg hc hn, h.wf, h.rises⟩
theorem SetIs.chg0 {w w' : World} {b : Nat} {T : List Int} (h : SetIs w b T) (hc : Chg [] w w') : SetIs w' b T := h.chg hc (by simp)
theorem i64_inj : ∀ a b : Int, Value.int .i64 a = Value.int .i64 b → a = b := fun a b h => by injection h
theorem Try.keyedI : Maps.Keyed Try.prog 3 := Maps.int_keyed Try.underlying3
theorem keyI {x : Int} (h : I64 x) : keyOf Try.prog 3 (Value.int .i64 x) = some (.int .i64 x) := Maps.keyOf_int_mk Try.underlying3 h.wf
theorem SetIs.made (w : World) : SetIs (w.alloc (.map #[] 0)) w.heap.size [] :=
  ⟨(MapIs.made Try.prog 3 (Value.int .i64) w).congr (fun q => by simp [setF]), by simp, List.Pairwise.nil⟩
theorem SetIs.put {w : World} {b : Nat} {T : List Int} (h : SetIs w b T) {x : Int} (hx : I64 x) :
    ∃ w', (Instr.mapUpdate 81 (.map (some b)) (.int .i64 x) (.int .i64 1)).run Try.prog w = .ok () w' ∧ SetIs w' b (addS T x) ∧ Chg [b] w w' := by
  obtain ⟨w', h1, h2, h3⟩ := h.map.put i64_inj Try.keyedI Try.underlying81 (q := x) (keyI hx) one1
  refine ⟨w', h1, ⟨h2.congr (fun q => ?_), fun z hz => ?_, addS_rises h.rises⟩, h3⟩
  · unfold setF
    by_cases e : q = x
    · rw [if_pos e, if_pos (mem_addS.2 (.inl e))]
    · rw [if_neg e]
      by_cases e2 : q ∈ T
      · rw [if_pos e2, if_pos (mem_addS.2 (.inr e2))]
      · rw [if_neg e2, if_neg (fun hm => (mem_addS.1 hm).elim e e2)]
  · rcases mem_addS.1 hz with rfl | hz
    · exact hx
    · exact h.wf z hz
/-- The keys of a set's block, as they lie. -/
theorem SetIs.keys {w : World} {b : Nat} {T : List Int} (h : SetIs w b T) : ∃ es clock, w.heap[b]? = some (.map es clock) ∧ Stamped es clock ∧ ∃ ks : List Int, es.toList.map (·.key) = ks.map (Value.int .i64) ∧ ks.Perm T := by
  obtain ⟨es, clock, hb, hst, hall, hhas⟩ := h.map
  have hex : ∀ l : List MapEntry, (∀ x ∈ l, ∃ q, x.key = Value.int .i64 q) → ∃ ks : List Int, l.map (·.key) = ks.map (Value.int .i64) := by
    intro l
    induction l with
    | nil => intro _; exact ⟨[], rfl⟩
    | cons x l ih =>
      intro hl
      obtain ⟨q, hq⟩ := hl x (by simp)
      obtain ⟨ks, hk⟩ := ih (fun y hy => hl y (by simp [hy]))
      exact ⟨q :: ks, by simp [hq, hk]⟩
  obtain ⟨ks, hks⟩ := hex es.toList (fun x hx => by obtain ⟨q, l, h1, _⟩ := hall x hx; exact ⟨q, h1⟩)
  refine ⟨es, clock, hb, hst, ks, hks, ?_⟩
  have hnd : ks.Nodup := by
    have h1 : (es.toList.map (·.key)).Nodup := hst.2.2
    rw [hks] at h1
    exact (List.pairwise_map.1 h1).imp fun hab e => hab (by rw [e])
  refine (List.perm_ext_iff_of_nodup hnd (rises_nodup h.rises)).2 fun z => ?_
  constructor
  · intro hz
    have hm : Value.int .i64 z ∈ es.toList.map (·.key) := by rw [hks]; exact List.mem_map.2 ⟨z, hz, rfl⟩
    obtain ⟨x, hx, e⟩ := List.mem_map.1 hm
    obtain ⟨q, l, h1, _, h2⟩ := hall x hx
    have eq : q = z := i64_inj _ _ (h1.symm.trans e)
    subst eq
    unfold setF at h2
    by_cases hT : q ∈ T
    · exact hT
    · rw [if_neg hT] at h2; cases h2
  · intro hz
    obtain ⟨x, hx, e, _⟩ := hhas z one1 (by simp [setF, hz])
    have hm : Value.int .i64 z ∈ es.toList.map (·.key) := List.mem_map.2 ⟨x, hx, e⟩
    rw [hks] at hm
    obtain ⟨y, hy, e2⟩ := List.mem_map.1 hm
    rw [← i64_inj _ _ e2]
    exact hy
theorem sorted_rises {l T : List Int} (hp : l.Perm T) (hT : Rises T) : l.mergeSort leI = T := by
  refine List.Perm.eq_of_pairwise (le := fun a b => a ≤ b) (fun a b _ _ h1 h2 => by omega) ?_ (hT.imp fun h => by omega) ((List.mergeSort_perm l leI).trans hp)
  have tr : ∀ a b c : Int, leI a b = true → leI b c = true → leI a c = true := fun a b c h1 h2 => by simp only [leI, decide_eq_true_eq] at *; exact Int.le_trans h1 h2
  have to : ∀ a b : Int, (leI a b || leI b a) = true := fun a b => by simp only [leI, Bool.or_eq_true, decide_eq_true_eq]; exact Int.le_total a b
  exact (List.pairwise_mergeSort tr to l).imp fun h => by simpa [leI] using h

def anyR : Value → Option (DataW Unit × List MemPlace) := fun _ => some (.nil, [])
theorem SetIs.owns {w : World} {b : Nat} {T : List Int} (h : SetIs w b T) (hT : T.length ≤ 1000000) : ∃ D0 : DataW Unit, w.ownsMap Try.prog 3 anyR b T.length D0 ∧ (intKeys D0).Perm T ∧ Maps.size D0 ≤ 1000000 := by
  obtain ⟨es, clock, hb, hst, ks, hks, hp⟩ := h.keys
  have hsz : es.size = T.length := by
    have h1 := congrArg List.length hks
    simp only [List.length_map, Array.length_toList] at h1
    rw [h1, hp.length_eq]
  have hrd : ∀ x ∈ es.toList, ∃ q : Int, x.key = .int .i64 q ∧ WideElems.rd Try.prog 3 anyR x = some (.int .i64 q, .nil) := fun x hx => by
    have hm : x.key ∈ es.toList.map (·.key) := List.mem_map.2 ⟨x, hx, rfl⟩
    rw [hks] at hm
    obtain ⟨q, hq, e⟩ := List.mem_map.1 hm
    have hw := h.wf q (hp.mem_iff.1 hq)
    refine ⟨q, e.symm, ?_⟩
    simp [WideElems.rd, ← e, keyI hw, anyR]
  refine ⟨_, ⟨es, clock, hb, ⟨by rw [hsz]; simp only [maxLen]; omega, hst, fun x hx => by obtain ⟨q, _, h2⟩ := hrd x hx; exact ⟨_, h2⟩⟩, by omega, rfl⟩, ?_, ?_⟩
  · show ((List.foldr DataW.insert [] (es.toList.map (WideElems.rg Try.prog 3 anyR))).map fun p => Go.intOf p.1).Perm T
    refine (((Go.WideShapes.sorted_perm _).map _).trans ?_)
    rw [List.map_map]
    have e : es.toList.map ((fun p : Lit × DataW Unit => Go.intOf p.1) ∘ WideElems.rg Try.prog 3 anyR) = ks := by
      have h1 : (es.toList.map (·.key)).map (fun v : Value => match v with | .int _ a => a | _ => 0) = ks := by
        rw [hks, List.map_map]
        conv => rhs; rw [← List.map_id ks]
        rfl
      rw [List.map_map] at h1
      rw [← h1]
      refine List.map_congr_left fun x hx => ?_
      obtain ⟨q, h2, h3⟩ := hrd x hx
      simp only [Function.comp, WideElems.rg_of h3, h2, Go.intOf]
    rw [e]
    exact hp
  · show (List.foldr DataW.insert [] (es.toList.map (WideElems.rg Try.prog 3 anyR))).length ≤ _
    rw [(Go.WideShapes.sorted_perm _).length_eq, List.length_map, Array.length_toList, hsz]
    exact hT

theorem sortsH (m : Nat) : AnyZI.SortsIn Try.prog Try.sortedA_ren Fence.wide m :=
  ⟨fun blk off cap ss W hH hblk hsz => callsIn_wide.2 (AnyM.slices_Sort_int Try.sortA blk off cap ss W hH hblk hsz), fun p cap W => callsIn_wide.2 (AnyM.slices_Sort_int_none Try.sortA p cap W)⟩

set_option maxRecDepth 100000 in
set_option maxHeartbeats 2000000 in
theorem rising_any (w : World) (b : Nat) (T : List Int) (h : SetIs w b T) (hT : T.length ≤ 1000000) :
    Calls Try.prog 41 #[.map (some b)] w (ClonedInts w T) := by
  obtain ⟨D0, hown, hperm, hsize⟩ := h.owns hT
  refine (callsIn_wide (n := 6)).1 ?_
  have hbl := hown.lt
  have hseq : SeqGives Fence.wide 2 Try.prog 69 #[.pointer (some ⟨w.heap.size, 0, none⟩)] encZ (fun ss => ss.Perm (intKeys D0)) (Maps.size D0) (w.alloc (.cells #[.map (some b)] 81)) :=
    AnyZI.keys_gives (ρ := Try.keysA_ren) { Try.keysA with } Fence.wide _ trivial rfl (by omega) w.heap.size b T.length D0 _ (by simp) (by simp) (by
      obtain ⟨es, clock, hb, Ft, hs, hD⟩ := hown
      exact ⟨es, clock, (Below.heap_alloc _ _ b hbl).trans hb, Ft, hs, hD⟩)
  have cK : ∀ mb W, CallsIn Fence.wide 5 Try.prog 62 #[.map mb] W fun e w' => e = .returned (.func (.func 69) #[] #[.pointer (some ⟨W.heap.size, 0, none⟩)]) ∧ w' = W.alloc (.cells #[.map mb] 81) := fun mb W => AnyZI.keys_in Try.keysA Fence.wide 5 trivial rfl mb W
  have cS := AnyZI.sorted_in Try.sortedA Fence.wide 5 trivial trivial trivial trivial rfl (by omega) (sortsH _) (enters_of Try.func68 (by kernel_rfl) rfl) 69 #[.pointer (some ⟨w.heap.size, 0, none⟩)] trivial (enters_of Try.func69 (by kernel_rfl) rfl) _ _ (by simp only [maxLen]; omega) (by omega) _ hseq
  change CallsIn _ _ Try.prog 61 _ _ _ at cS
  have hfK : Fence.wide.fn 62 := trivial
  have hfS : Fence.wide.fn 61 := trivial
  refine callsIn_of_wp Try.func41 rfl trivial ?_ rfl
  simp only [Try.ntmps41, List.size_toArray, List.length_cons, List.length_nil, Nat.reduceAdd, Nat.reduceSub, Array.replicate_succ, Array.replicate_zero, List.push_toArray, List.append_toArray, List.nil_append, List.cons_append]
  gi_wp2_with (first
    | (gi_at_call 62; refine (cK _ _).mono ?_; rintro e w' ⟨rfl, rfl⟩)
    | (gi_at_call 61; refine cS.mono ?_; rintro e w' ⟨v, ss, rfl, hS, hrow, hnil, hb⟩))
  go_ret
  have e9 : ss.mergeSort (fun x y => decide (x ≤ y)) = T := sorted_rises (hS.trans hperm) h.rises
  have hl : ss.length = T.length := (hS.trans hperm).length_eq
  rw [e9, hl] at hrow
  obtain ⟨a, c, rfl⟩ := ownsRow_slice hrow
  exact ⟨a, c, rfl, row_base hrow (by simp), ((Chg.refl [] w).alloc _).tr (Chg.of_below hb)⟩

/-- maps.Clone of a set. -/
theorem cloneSet_any (w : World) (b : Nat) (T : List Int) (h : SetIs w b T) :
    Calls Try.prog 53 #[.map (some b)] w fun e w' => e = .returned (.map (some w.heap.size)) ∧ SetIs w' w.heap.size T ∧ Chg [] w w' := by
  obtain ⟨es, clock, hb, hst, hall, hhas⟩ := h.map
  refine (AnyW.maps_Clone Try.cloneA b es clock w hb).mono ?_
  rintro e w' ⟨rfl, rfl⟩
  exact ⟨rfl, ⟨⟨es, clock, heap_alloc_same _ _, hst, hall, hhas⟩, h.wf, h.rises⟩, (Chg.refl [] w).alloc _⟩
end Go.Proofs.Ytnajhcoimohcaaa

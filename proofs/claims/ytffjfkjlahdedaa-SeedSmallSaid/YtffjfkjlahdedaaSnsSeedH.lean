/-
  The walks over package seed: Read, Len; Pick.
  Conditions: as in the texts before.
-/
import Derived.Test.YtffjfkjlahdedaaSnsSeedG
set_option linter.unusedVariables false
set_option linter.unusedSimpArgs false
set_option linter.unnecessarySimpa false
namespace Go.Proofs.Ytffjfkjlahdedaa
open Go.RowKit Go.MapKept

def St.read (s : St) (q : Int × Int) (k : Int) : Option (Int × Int × List Tw) × Int :=
  match s.get q with
  | none => (none, 1)
  | some none => (none, 2)
  | some (some (e, l, t)) => if l ≤ k then (some (e, l, t), 3) else (none, 2)
def SeedAt (B : Nat) (w : World) (v : Value) : Option (Int × Int × List Tw) → Prop
  | none => v = .agg #[.int .i64 0, .int .i64 0, .slice none 0 0]
  | some (e, l, t) => ∃ a c, v = .agg #[.int .i64 e, .int .i64 l, .slice a t.length c] ∧ Tree w (.slice a t.length c) t ∧ ∀ k, (Value.slice a t.length c).ownBlock = some k → B ≤ k
def ReadPost (x : Option (Int × Int × List Tw) × Int) (w : World) (r : Ending) (w' : World) : Prop :=
  ∃ v, r = .returned (.tuple #[v, .int .i64 x.2]) ∧ SeedAt w.heap.size w' v x.1 ∧ Chg [] w w'

set_option maxRecDepth 100000 in
set_option maxHeartbeats 800000 in
theorem Read_any {NB : Nat} (w : World) (b m : Nat) (v : Value) (s : St) (q : Int × Int) (k : Int) (h : StoreAt NB w b v m s) (h1 : I64 q.1) (h2 : I64 q.2) :
    Calls Try.prog 12 #[.pointer (some ⟨b, 0, none⟩), .int .i64 q.1, .int .i64 q.2, .int .i64 k] w (ReadPost (s.read q k) w) := by
  obtain ⟨M, hM, hg⟩ := h.map
  obtain ⟨ky, hl⟩ := pairKey q h1 h2
  have hgq := hg q
  have hlook := fun o1 => (hM.chg ((Chg.refl [] _).alloc o1) (by simp)).look pairV_inj Try.keyedPair Try.underlying66 (Try.zeroValue73 _) hl true
  have hb := lt_of_block h.head
  have c0 := cell_of_cells h.head 0
  have c1 := cell_of_cells h.head 1
  simp at c0 c1
  have H := Lib.hid h
  clear h hM hg hl h1 h2
  unfold St.read
  cases hs : s.get q with
  | none =>
    rw [hs] at hgq
    simp only at hgq
    simp only [hgq, pairV, Option.getD_none, Option.isSome_none, if_true] at hlook
    clear hgq hs
    go_enter Try.func12, Try.ntmps12
    go_wp2_with fail
    refine (made_yes _ _ m ?_).mono ?_
    · exact ((Chg.refl [] w).alloc _).cell c1 (by simp)
    rintro r w' ⟨rfl, rfl⟩
    go_wp2
    refine bodyPost_ret (v := .tuple #[.agg #[.int .i64 0, .int .i64 0, .slice none 0 0], .int .i64 1]) (by simp [results, Try.results12, go_sem]) rfl ?_
    exact ⟨_, rfl, rfl, ((Chg.refl _ _).alloc _).alloc _⟩
  | some f =>
    rw [hs] at hgq
    obtain ⟨val, hv, hval⟩ := hgq
    cases f with
    | none =>
      simp only [FoundAt] at hval
      subst hval
      simp only [hv, pairV, foundV, Option.getD_some, Option.isSome_some, if_true] at hlook
      clear hv hs
      go_enter Try.func12, Try.ntmps12
      go_wp2_with fail
      refine (made_yes _ _ m ?_).mono ?_
      · exact ((Chg.refl [] w).alloc _).cell c1 (by simp)
      rintro r w' ⟨rfl, rfl⟩
      go_wp2_with fail
      refine (gives_any _ false 0 0 k none 0 0).mono ?_
      rintro r w1 ⟨rfl, hc⟩
      have z := hc.heap (k := w.heap.size) (heap_alloc_lt (heap_alloc_same w _) _) (by simp)
      have z0 := cell_of_cells z 0
      have z1 := cell_of_cells z 1
      have z2 := cell_of_cells z 2
      have zf := free_of_cells z
      simp at z0 z1 z2
      have HC := Lib.hid (And.intro hc z)
      clear hc z
      go_wp2
      refine bodyPost_ret (v := .tuple #[.agg #[.int .i64 0, .int .i64 0, .slice none 0 0], .int .i64 2]) (by simp [results, Try.results12, go_sem, z0, z1, z2]) rfl ?_
      refine ⟨_, rfl, rfl, ?_⟩
      exact (((((((Chg.refl _ _).alloc _).alloc _).tr0 HC.out.1).setCell (.inr (Nat.le_refl _)) _).setCell (.inr (Nat.le_refl _)) _).setCell (.inr (Nat.le_refl _)) _)
    | some x =>
      obtain ⟨e, l, t⟩ := x
      obtain ⟨a, n, c, rfl, ht⟩ := hval
      have hn : n = t.length := by obtain ⟨a', c', h'⟩ := ownsRow_slice ht.1.1; cases h'; rfl
      subst hn
      simp only [hv, pairV, foundV, Option.getD_some, Option.isSome_some, if_true] at hlook
      have HT := Lib.hid ht.1
      clear hv hs ht
      by_cases hk : l ≤ k
      · simp only [if_pos hk]
        go_enter Try.func12, Try.ntmps12
        go_wp2_with fail
        refine (made_yes _ _ m ?_).mono ?_
        · exact ((Chg.refl [] w).alloc _).cell c1 (by simp)
        rintro r w' ⟨rfl, rfl⟩
        go_wp2_with fail
        refine (gives_any _ true e l k a t.length c).mono ?_
        rintro r w1 ⟨rfl, hc⟩
        have z := hc.heap (k := w.heap.size) (heap_alloc_lt (heap_alloc_same w _) _) (by simp)
        have y := hc.heap (heap_alloc_same _ _) List.not_mem_nil
        rw [World.size_alloc] at y
        have y1 := (cell_of_cells y 1).trans (show _ = some (Value.int .i64 e) from rfl)
        have y2 := (cell_of_cells y 2).trans (show _ = some (Value.int .i64 l) from rfl)
        have y3 := (cell_of_cells y 3).trans (show _ = some (Value.slice a t.length c) from rfl)
        rw [Bool.true_and, decide_eq_true hk]
        have HC := Lib.hid (And.intro hc (And.intro z y))
        clear hc z y
        go_wp2_with fail
        refine (copied_any _ e l a _ c t ?_).mono ?_
        · exact ⟨((((Chg.refl _ _).alloc _).alloc _).tr0 HC.out.1).row (S := []) HT.out.1 (fun _ _ => List.not_mem_nil), HT.out.2⟩
        rintro r w2 ⟨a2, n2, c2, rfl, ht2, hf2, hc2⟩
        have hn2 : n2 = t.length := by obtain ⟨a', c', h'⟩ := ownsRow_slice ht2.1; cases h'; rfl
        subst hn2
        have z := hc2.heap HC.out.2.1 (by simp)
        have z0 := cell_of_cells z 0
        have z1 := cell_of_cells z 1
        have z2 := cell_of_cells z 2
        have zf := free_of_cells z
        simp at z0 z1 z2
        have HC2 := Lib.hid (And.intro hc2 (And.intro ht2 z))
        have HF2 := Lib.hid hf2
        clear hc2 ht2 z hf2
        go_wp2
        refine bodyPost_ret (v := .tuple #[.agg #[.int .i64 e, .int .i64 l, .slice a2 t.length c2], .int .i64 3]) (by simp [results, Try.results12, go_sem, z0, z1, z2]) rfl ?_
        obtain ⟨hc2, ht2, z⟩ := HC2.out
        have hne := ownsRow_ne ht2.1 z (by decide)
        refine ⟨_, rfl, ⟨a2, c2, rfl, ⟨ownsRow_setCell_other (ownsRow_setCell_other (ownsRow_setCell_other ht2.1 hne _) hne _) hne _, ht2.2⟩, fun k hk => by have g1 := HF2.out k hk; have g2 := HC.out.1.size; simp only [World.size_alloc] at g2; omega⟩, ?_⟩
        exact ((((((((Chg.refl _ _).alloc _).alloc _).tr0 HC.out.1).tr0 hc2).setCell (.inr (Nat.le_refl _)) _).setCell (.inr (Nat.le_refl _)) _).setCell (.inr (Nat.le_refl _)) _)
      · simp only [if_neg hk]
        go_enter Try.func12, Try.ntmps12
        go_wp2_with fail
        refine (made_yes _ _ m ?_).mono ?_
        · exact ((Chg.refl [] w).alloc _).cell c1 (by simp)
        rintro r w' ⟨rfl, rfl⟩
        go_wp2_with fail
        refine (gives_any _ true e l k a t.length c).mono ?_
        rintro r w1 ⟨rfl, hc⟩
        have z := hc.heap (k := w.heap.size) (heap_alloc_lt (heap_alloc_same w _) _) (by simp)
        have z0 := cell_of_cells z 0
        have z1 := cell_of_cells z 1
        have z2 := cell_of_cells z 2
        have zf := free_of_cells z
        simp at z0 z1 z2
        rw [Bool.true_and, decide_eq_false (show ¬ l ≤ k by omega)]
        have HC := Lib.hid (And.intro hc z)
        clear hc z
        go_wp2
        refine bodyPost_ret (v := .tuple #[.agg #[.int .i64 0, .int .i64 0, .slice none 0 0], .int .i64 2]) (by simp [results, Try.results12, go_sem, z0, z1, z2]) rfl ?_
        refine ⟨_, rfl, rfl, ?_⟩
        exact (((((((Chg.refl _ _).alloc _).alloc _).tr0 HC.out.1).setCell (.inr (Nat.le_refl _)) _).setCell (.inr (Nat.le_refl _)) _).setCell (.inr (Nat.le_refl _)) _)

set_option maxRecDepth 100000 in
set_option maxHeartbeats 800000 in
theorem Len_any {NB : Nat} (w : World) (b m : Nat) (v : Value) (s : St) (h : StoreAt NB w b v m s) :
    Calls Try.prog 13 #[.pointer (some ⟨b, 0, none⟩)] w fun r w' => r = .returned (.int .i64 s.length) ∧ w = w' := by
  obtain ⟨a, c, rfl⟩ := ownsRow_slice h.row
  have c0 := cell_of_cells h.head 0
  have c1 := cell_of_cells h.head 1
  simp at c0 c1
  clear h
  go_enter Try.func13, Try.ntmps13
  go_wp2_with fail
  refine (made_yes _ _ _ c1).mono ?_
  rintro r w' ⟨rfl, rfl⟩
  go_wp2
  go_ret
  exact ⟨rfl, rfl⟩

theorem tmod_emod (x n : Int) : x.tmod n % n = x % n := by
  have h := Int.mul_tdiv_add_tmod x n
  have : x.tmod n = x - n * x.tdiv n := by omega
  rw [this, Int.sub_mul_emod_self_left]
theorem pick_pos (x n : Int) (hn : 1 ≤ n) (h : 0 ≤ x.tmod n) : x.tmod n = x % n := by
  have t1 := Int.tmod_lt_of_pos x (show 0 < n by omega)
  rw [← tmod_emod, Int.emod_eq_of_lt h t1]
theorem pick_neg (x n : Int) (hn : 1 ≤ n) (h : x.tmod n < 0) : x.tmod n + n = x % n := by
  have t2 := Int.lt_tmod_of_pos x (show 0 < n by omega)
  rw [← tmod_emod, ← Int.add_emod_right, Int.emod_eq_of_lt (by omega) (by omega)]

set_option maxHeartbeats 400000 in
theorem pick_any (x n : Int) (w : World) (hn : 1 ≤ n) (hn2 : n ≤ 1000000) (h1 : -9223372036854775808 ≤ x) (h2 : x ≤ 9223372036854775807) :
    Calls Try.prog 10 #[.int .i64 x, .int .i64 n] w fun e w' => e = .returned (.int .i64 (x % n)) ∧ w = w' := by
  have t1 := Int.tmod_lt_of_pos x (show 0 < n by omega)
  have t2 := Int.lt_tmod_of_pos x (show 0 < n by omega)
  go_enter Try.func10, Try.ntmps10
  go_wp2
  all_goals go_ret
  all_goals refine ⟨ret_int ?_, rfl⟩
  · exact pick_neg x n hn (by assumption)
  · exact pick_pos x n hn (by assumption)

/-! ### The same contracts, with what they answer already reckoned -/
theorem Read_eq {NB : Nat} {s : St} {q : Int × Int} {k : Int} {x : Option (Int × Int × List Tw)} {y : Int} (hr : s.read q k = (x, y)) (w : World) (b m : Nat) (v : Value) (h : StoreAt NB w b v m s) (h1 : I64 q.1) (h2 : I64 q.2) :
    Calls Try.prog 12 #[.pointer (some ⟨b, 0, none⟩), .int .i64 q.1, .int .i64 q.2, .int .i64 k] w (ReadPost (x, y) w) := hr ▸ Read_any w b m v s q k h h1 h2
def BeginEq (NB : Nat) (b : Nat) (v : Value) (m : Nat) (s' : St) (x : Int) (w : World) (e : Ending) (w' : World) : Prop :=
  ∃ v', e = .returned (.int .i64 x) ∧ StoreAt NB w' b v' m s' ∧ Chg (own b v m) w w' ∧ (∀ k, v'.ownBlock = some k → v.ownBlock = some k ∨ w.heap.size ≤ k)
theorem begin_eq {NB : Nat} {s s' : St} {q : Int × Int} {x : Int} (hx : (if q ∈ s.map (·.1) then 8 else 0) = x) (hs' : (if q ∈ s.map (·.1) then s else s ++ [(q, none)]) = s') (w : World) (b m : Nat) (v : Value) (h : StoreAt NB w b v m s) (h1 : I64 q.1) (h2 : I64 q.2) (hs : s.length ≤ 1099511627776) :
    Calls Try.prog 9 #[.pointer (some ⟨b, 0, none⟩), .int .i64 q.1, .int .i64 q.2] w (BeginEq NB b v m s' x w) := by
  subst hx; subst hs'
  exact begin_any w b m v s q h h1 h2 hs
theorem grow_eq {NB : Nat} {s s' : St} {e l x : Int} {t : List Tw} (hx : s.growErr e l = x) (hs' : s.grow e l t = s') (w : World) (b m : Nat) (v : Value) (a : Option Addr) (n c : Nat) (h : StoreAt NB w b v m s) (ht : Tree w (.slice a n c) t) (hs : s.length ≤ 1099511627776) :
    Calls Try.prog 11 #[.pointer (some ⟨b, 0, none⟩), .agg #[.int .i64 e, .int .i64 l, .slice a n c]] w fun r w' => r = .returned (.int .i64 x) ∧ StoreAt NB w' b v m s' ∧ Chg (own b v m) w w' := by
  subst hx; subst hs'
  exact grow_any w b m v s e l a n c t h ht hs
theorem End_eq {NB : Nat} {s s' : St} {x : Int} (hx : (if s = [] then 5 else 0) = x) (hs' : s.dropLast = s') (w : World) (b m : Nat) (v : Value) (h : StoreAt NB w b v m s) (hs : s.length ≤ 1099511627776) :
    Calls Try.prog 16 #[.pointer (some ⟨b, 0, none⟩)] w (EndPost NB b v m s' x w) := by
  subst hx; subst hs'
  exact End_any w b m v s h hs
theorem tree_nil (w : World) : Tree w (.slice none 0 0) [] := ⟨World.ownsRow_nil _ _ _ _, by simp⟩
end Go.Proofs.Ytffjfkjlahdedaa

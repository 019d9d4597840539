/-
  The document's heads: a number put into a rising row.
  Conditions: none.
-/
import Derived.Test.YtnajhcoimohcaaaSmHd10
set_option linter.unusedVariables false
set_option linter.unusedSimpArgs false
set_option linter.unnecessarySimpa false
namespace Go.Proofs.Ytnajhcoimohcaaa
open Go.RowKit Go.MapKept

theorem addS_cut : ∀ {T : List Int} {x : Int} {k : Nat}, k ≤ T.length → (∀ j (h : j < T.length), j < k → T[j] < x) → (∀ h : k < T.length, x ≤ T[k]) → addS T x = if T[k]? = some x then T else T.take k ++ x :: T.drop k
  | [], x, k, hk, h1, h2 => by simp [addS]
  | y :: T, x, 0, hk, h1, h2 => by
    have h3 := h2 (by simp)
    simp only [List.getElem_cons_zero] at h3
    unfold addS
    rw [if_neg (by omega)]
    by_cases e : y = x <;> simp [e]
  | y :: T, x, k + 1, hk, h1, h2 => by
    have h3 := h1 0 (by simp) (by omega)
    simp only [List.getElem_cons_zero] at h3
    unfold addS
    rw [if_pos h3, addS_cut (T := T) (x := x) (k := k) (by simpa using hk) (fun j h hj => h1 (j + 1) (by simpa using h) (by omega)) (fun h => h2 (by simpa using h))]
    by_cases e : T[k]? = some x <;> simp [e]
def Off (NB : Nat) (a : Option Addr) : Prop := ∀ ad, a = some ad → ad.block ≠ NB
/-- A row of rules of the document's, not the row NB. -/
def DocI (NB : Nat) (w : World) (a : Option Addr) (c : Nat) (xs : List Int) : Prop := FreshInts 0 w a c xs ∧ Off NB a
theorem DocI.chg0 {NB : Nat} {w w' : World} {a : Option Addr} {c : Nat} {xs : List Int} (h : DocI NB w a c xs) (hc : Chg [] w w') : DocI NB w' a c xs := ⟨hc.row h.1 (fun _ _ => by simp), h.2⟩
theorem offRow {w : World} {base e size n c m : Nat} {a : Option Addr} {xs : List Value} (h : w.ownsRow base e size (.slice a n c) m xs) : ∀ ad, a = some ad → base ≤ ad.block := by
  rintro ad rfl
  rcases h.2 with ⟨h0, _⟩ | ⟨g, _, _, h0, hb, _⟩
  · cases h0
  · cases h0; exact hb
def AddP (w : World) (a0 : Option Addr) (T : List Int) (x : Int) (e : Ending) (w' : World) : Prop :=
  ∃ a c, e = .returned (.slice a (addS T x).length c) ∧ FreshInts 0 w' a c (addS T x) ∧ (a = a0 ∨ ∀ ad, a = some ad → w.heap.size ≤ ad.block) ∧ Chg [] w w'

theorem oneInts {l : List Int} : ∀ u ∈ l.map (Value.int .i64), u.oneCell' = true := by
  intro u hu
  obtain ⟨z, _, rfl⟩ := List.mem_map.1 hu
  rfl
theorem oneX {x : Int} {l : List Int} : ∀ u ∈ [Value.int .i64 x] ++ l.map (Value.int .i64), u.oneCell' = true := by
  intro u hu
  rcases List.mem_append.1 hu with hu | hu
  · simp only [List.mem_singleton] at hu; subst hu; rfl
  · exact oneInts u hu
theorem noRow {w : World} {B e n c : Nat} {xs : List Value} (hn : 0 < n) : ¬ w.ownsRow B e 1 (.slice none n c) n xs := by
  rintro ⟨_, ⟨_, h⟩ | ⟨g, _, _, h, _⟩⟩
  · omega
  · cases h
theorem rowCells {w : World} {B e n c : Nat} {b : Addr} {xs : List Value} (h : w.ownsRow B e 1 (.slice (some b) n c) n xs) : ∀ j u, xs[j]? = some u → w.cell? (b.add j) = some u := by
  rcases h.2 with ⟨h0, _⟩ | ⟨g, _, _, h0, _⟩
  · cases h0
  · cases h0; exact World.ownsRow.cells h (g := g) rfl
theorem cellsT {w W : World} {g c : Nat} {T : List Int} (h : FreshInts 0 w (some ⟨g, 0, none⟩) c T) (hW : Chg [] w W) (k : Nat) : ∀ b, (some ⟨g, 0, none⟩ : Option Addr) = some b → ∀ j u, ((T.take k).map (Value.int .i64))[j]? = some u → W.cell? (b.add j) = some u := by
  intro b hb j u hu
  cases hb
  refine rowCells (hW.row h (fun _ _ => by simp)) j u ?_
  rw [List.map_take, List.getElem?_take] at hu
  split at hu
  · exact hu
  · cases hu
theorem cellsD {w W : World} {g c : Nat} {T : List Int} {ad : Option Addr} (h : FreshInts 0 w (some ⟨g, 0, none⟩) c T) (hW : Chg [] w W) (k : Nat) (hk : T.length ≤ k ∨ ad = some ((⟨g, 0, none⟩ : Addr).add k)) : ∀ b, ad = some b → ∀ j u, ((T.drop k).map (Value.int .i64))[j]? = some u → W.cell? (b.add j) = some u := by
  intro b hb j u hu
  rw [List.map_drop, List.getElem?_drop] at hu
  rcases hk with hk | hk
  · rw [List.getElem?_eq_none (by rw [List.length_map]; omega)] at hu
    cases hu
  · rw [hk] at hb
    cases hb
    have h9 := rowCells (hW.row h (fun _ _ => by simp)) (k + j) u hu
    have e : ((⟨g, 0, none⟩ : Addr).add k).add j = (⟨g, 0, none⟩ : Addr).add (k + j) := by
      unfold Addr.add
      by_cases h1 : k = 0 <;> by_cases h2 : j = 0 <;> simp [h1, h2]
    rw [e]
    exact h9
theorem addEnd {w W : World} {T P D : List Int} {x : Int} {e : Ending} {a a0 : Option Addr} {n c : Nat} (hE : addS T x = P ++ x :: D) (hn : n = (P ++ x :: D).length) (hr : W.ownsRow w.heap.size 3 1 (.slice a n c) n (P.map (Value.int .i64) ++ ([Value.int .i64 x] ++ D.map (Value.int .i64)))) (hc : Chg [] w W)
    (he : ∃ m c', e = .returned (.slice a m c') ∧ m = (addS T x).length ∧ c' = c) : AddP w a0 T x e W := by
  obtain ⟨m, c', rfl, rfl, rfl⟩ := he
  refine ⟨a, c', rfl, ?_, .inr (offRow hr), hc⟩
  unfold FreshInts
  rw [hE, ← hn]
  have h9 := row_base hr (Nat.zero_le _)
  simpa using h9

set_option maxRecDepth 100000 in
set_option maxHeartbeats 4000000 in
theorem add_any (w : World) (a : Option Addr) (c : Nat) (T : List Int) (h : FreshInts 0 w a c T) (hT : T.length ≤ 1000000) (x : Int) :
    Calls Try.prog 52 #[.slice a T.length c, .int .i64 x] w (AddP w a T x) := by
  obtain ⟨i0, hi0, hz0, hz1, hz2⟩ := info_parts Try.infoInt
  obtain ⟨n, hn⟩ : ∃ n, n = T.length := ⟨_, rfl⟩
  have hcells : ∀ g, a = some ⟨g, 0, none⟩ → ∀ (i : Nat) (hi : i < T.length), w.cell? ⟨g, i, none⟩ = some (.int .i64 T[i]) := fun g hg i hi => by
    subst hg
    have h9 := World.ownsRow.cells h (g := g) rfl i (.int .i64 T[i]) (by simp [hi])
    by_cases e : i = 0
    · subst e; exact h9
    · simpa [Addr.add, e] using h9
  rcases h.2 with ⟨e0, e1⟩ | ⟨g, cap, cur, h0, hb, hg, hnc, hcm, _⟩
  · simp only [Value.slice.injEq] at e0
    obtain ⟨rfl, hT0, rfl⟩ := e0
    have H := Lib.hid (And.intro h (And.intro hT0.symm (And.intro hT trivial)))
    rw [hT0]
    clear h hT hcells hn e1 hT0 n
    go_enter Try.func52, Try.ntmps52
    go_wp2_with fail
    go_loopg [5] 0 (fun dd iv wr => ∃ i : Nat, dd = 0 - i ∧ i ≤ 0 ∧ iv = .int .i64 i ∧ Hid (True ∧ Chg [] w wr))
    case atStart => exact ⟨0, rfl, Nat.zero_le _, rfl, Lib.hid ⟨trivial, Chg.refl _ _⟩⟩
    case round =>
      obtain ⟨i, rfl, hi, rfl, hin⟩ := hrel
      obtain ⟨wq, rfl⟩ : ∃ wq, wq = wr := ⟨_, rfl⟩
      obtain rfl : i = 0 := by omega
      have hTn : T.length = 0 := H.out.2.1.symm
      have hT6 := H.out.2.2.1
      have hbw := hin.out.2.size
      have hnewX := heap_alloc_same wq (.cells #[.int .i64 x] 3)
      have hcX := (Chg.refl [] wq).alloc (.cells #[.int .i64 x] 3)
      have rowX : (wq.alloc (.cells #[.int .i64 x] 3)).ownsRow w.heap.size 3 1 (.slice (some ⟨wq.heap.size, 0, none⟩) 1 1) 1 [.int .i64 x] := ⟨rfl, .inr ⟨wq.heap.size, 1, #[.int .i64 x], rfl, hbw, hnewX, Nat.le_refl _, by decide, rfl, rfl⟩⟩
      have newsD : ∀ W, Chg [] w W → ∀ b, (none : Option Addr) = some b → ∀ j u, ((T.drop 0).map (Value.int .i64))[j]? = some u → W.cell? (b.add j) = some u := fun W hW b hb => by cases hb
      have newsT : ∀ W, Chg [] w W → ∀ b, (none : Option Addr) = some b → ∀ j u, ((T.take 0).map (Value.int .i64))[j]? = some u → W.cell? (b.add j) = some u := fun W hW b hb => by cases hb
      have lenD : ((T.drop 0).map (Value.int .i64)).length = 0 * 1 := by rw [List.length_map, List.length_drop]; omega
      have lenT : ((T.take 0).map (Value.int .i64)).length = 0 * 1 := by rw [List.length_map, List.length_take]; omega
      have bnd1 : 1 + 0 ≤ maxLen ∧ (1 + 0) * 8 ≤ 140737488355328 := by simp only [maxLen]; omega
      have bnd2 : 0 + 0 ≤ maxLen ∧ (0 + 0) * 8 ≤ 140737488355328 := by simp only [maxLen]; omega
      have bnd3 : 0 + 1 ≤ maxLen ∧ (0 + 1) * 8 ≤ 140737488355328 := by simp only [maxLen]; omega
      have hbX : w.heap.size ≤ (wq.alloc (.cells #[.int .i64 x] 3)).heap.size := by rw [World.size_alloc]; omega
      have HA := Lib.hid (And.intro rowX (And.intro newsD (And.intro newsT (And.intro lenD (And.intro lenT (And.intro bnd1 (And.intro bnd2 (And.intro bnd3 (And.intro hbX (hin.out.2.tr hcX))))))))))
      clear hTn hT6 hbw hnewX hcX rowX newsD newsT lenD lenT bnd1 bnd2 bnd3 hbX
      go_wp2_with (first | (at_builtin; refine wpList_append_two rfl _ _ 38 rfl w.heap.size 3 i0 _ 1 8 Try.underlying38 hi0 hz0 hz1 hz2 rfl (by decide) (.slice (some ⟨wq.heap.size, 0, none⟩) 1 1) 1 [.int .i64 x] rfl HA.out.1 (none) 0 0 ((T.drop 0).map (Value.int .i64)) rfl HA.out.2.2.2.1 (fun _ => rfl) (HA.out.2.1 _ HA.out.2.2.2.2.2.2.2.2.2) oneInts HA.out.2.2.2.2.2.1.1 HA.out.2.2.2.2.2.1.2 HA.out.2.2.2.2.2.2.2.2.1 ?_; intro v' w5 hr5 hg5 hor5; obtain ⟨a5, c5, rfl⟩ := ownsRow_slice hr5; have H5 : Hid (w5.ownsRow w.heap.size 3 1 (.slice a5 1 c5) 1 ([Value.int .i64 x] ++ (T.drop 0).map (Value.int .i64)) ∧ Chg [] w w5) := Lib.hid ⟨hr5, HA.out.2.2.2.2.2.2.2.2.2.grown hg5 (fun k hk => .inr (by cases hk; exact hin.out.2.size))⟩; have row6 : (w5.alloc (.cells #[] 3)).ownsRow w.heap.size 3 1 (.slice (some ⟨w5.heap.size, 0, none⟩) 0 0) 0 [] := ⟨rfl, .inr ⟨w5.heap.size, 0, #[], rfl, H5.out.2.size, heap_alloc_same _ _, Nat.le_refl _, (by decide), rfl, rfl⟩⟩; have H6 := Lib.hid (And.intro row6 (And.intro (H5.out.2.alloc (.cells #[] 3)) ((Chg.refl [] w5).alloc (.cells #[] 3)))); clear hr5 hg5 hor5 row6) | (at_builtin; refine wpList_append_two rfl _ _ 38 rfl w.heap.size 3 i0 _ 1 8 Try.underlying38 hi0 hz0 hz1 hz2 rfl (by decide) (.slice (some ⟨w5.heap.size, 0, none⟩) 0 0) 0 [] rfl H6.out.1 (none) 0 0 ((T.take 0).map (Value.int .i64)) rfl HA.out.2.2.2.2.1 (fun _ => rfl) (HA.out.2.2.1 _ H6.out.2.1) oneInts HA.out.2.2.2.2.2.2.1.1 HA.out.2.2.2.2.2.2.1.2 H6.out.2.1.size ?_; intro v' w7 hr7 hg7 hor7; obtain ⟨a7, c7, rfl⟩ := ownsRow_slice hr7; have hr7' : w7.ownsRow w.heap.size 3 1 (.slice a7 0 c7) 0 ((T.take 0).map (Value.int .i64)) := (by simpa using hr7); have h57 : Chg [] w5 w7 := H6.out.2.2.grown hg7 (fun k hk => .inr (by cases hk; exact Nat.le_refl _)); have row5 := h57.row H5.out.1 (fun _ _ => by simp); have H7 := Lib.hid (And.intro hr7' (And.intro row5 (H5.out.2.tr h57))); clear hr7 hg7 hor7 hr7' h57 row5) | (at_builtin; refine wpList_append_two rfl _ _ 38 rfl w.heap.size 3 i0 _ 1 8 Try.underlying38 hi0 hz0 hz1 hz2 rfl (by decide) (.slice a7 0 c7) 0 ((T.take 0).map (Value.int .i64)) rfl H7.out.1 a5 1 c5 ([Value.int .i64 x] ++ (T.drop 0).map (Value.int .i64)) rfl (H7.out.2.1.1) (fun h => by subst h; exact absurd H7.out.2.1 (noRow (by omega))) (fun b hb => by subst hb; exact rowCells H7.out.2.1) oneX HA.out.2.2.2.2.2.2.2.1.1 HA.out.2.2.2.2.2.2.2.1.2 H7.out.2.2.size ?_; intro v' w8 hr8 hg8 hor8; obtain ⟨a8, c8, rfl⟩ := ownsRow_slice hr8; have H8 := Lib.hid (And.intro hr8 (H7.out.2.2.grown hg8 (fun k hk => .inr (row_beyond H7.out.1 hk).1))); clear hr8 hg8 hor8))
      go_ret
      have hE : addS T x = T.take 0 ++ x :: T.drop 0 := by
        have hTn := H.out.2.1
        rw [addS_cut (k := 0) (by omega) (fun j h hj => by omega) (fun h => by omega), if_neg (by rw [List.getElem?_eq_none (by omega)]; simp)]
      exact addEnd hE (by have := H.out.2.1; simp only [List.length_append, List.length_cons, List.length_take, List.length_drop]; omega) H8.out.1 H8.out.2 ⟨_, _, rfl, by have := H.out.2.1; rw [hE]; simp only [List.length_append, List.length_cons, List.length_take, List.length_drop]; omega, rfl⟩
  · cases h0
    have hw9 := hcells g rfl
    simp only [maxLen] at hcm
    have H := Lib.hid (And.intro h (And.intro hn (And.intro hT hw9)))
    rw [← hn] at hnc ⊢
    clear h hw9 hcells hg hn hT
    go_enter Try.func52, Try.ntmps52
    go_wp2_with fail
    go_loopg [5] n (fun dd iv wr => ∃ i : Nat, dd = n - i ∧ i ≤ n ∧ iv = .int .i64 i ∧ Hid ((∀ j (h : j < T.length), j < i → T[j] < x) ∧ Chg [] w wr))
    case atStart => exact ⟨0, rfl, Nat.zero_le _, rfl, Lib.hid ⟨fun j h hj => by omega, Chg.refl _ _⟩⟩
    case round =>
      obtain ⟨i, rfl, hi, rfl, hin⟩ := hrel
      obtain ⟨wq, rfl⟩ : ∃ wq, wq = wr := ⟨_, rfl⟩
      by_cases hil : i < n
      · have hiT : i < T.length := by have := H.out.2.1; omega
        have hcell := hin.out.2.cell (H.out.2.2.2 i hiT) (by simp)
        obtain ⟨z, hz⟩ : ∃ z, z = T[i] := ⟨_, rfl⟩
        rw [← hz] at hcell
        have HZ : Hid (∃ h : i < T.length, z = T[i]) := Lib.hid ⟨hiT, hz⟩
        have hi1 : (i : Int) < n := by omega
        clear hz hiT
        by_cases hlt : z < x
        · go_wp2_with fail
          go_roundg (n - (i + 1))
          case measure => omega
          case rel =>
            refine ⟨i + 1, rfl, by omega, by go_num, Lib.hid ⟨fun j h hj => ?_, hin.out.2⟩⟩
            by_cases e : j = i
            · subst e
              obtain ⟨_, e9⟩ := HZ.out
              rw [← e9]; exact hlt
            · exact hin.out.1 j h (by omega)
        · by_cases hzx : z = x
          · go_wp2_with fail
            go_ret
            obtain ⟨hiT, e9⟩ := HZ.out
            have hE : addS T x = T := by
              rw [addS_cut (k := i) (by omega) hin.out.1 (fun _ => by rw [← e9]; omega), if_pos (by rw [List.getElem?_eq_getElem hiT, ← e9, hzx])]
            exact ⟨some ⟨g, 0, none⟩, c, by rw [hE, ← H.out.2.1]; simp, by rw [hE]; exact hin.out.2.row H.out.1 (fun _ _ => by simp), .inl rfl, hin.out.2⟩
          · have hne : ¬ c = i := by omega
            by_cases hj0 : i = 0
            · subst hj0
              have hTn : T.length = n := H.out.2.1.symm
              have hT6 := H.out.2.2.1
              have hbw := hin.out.2.size
              have hnewX := heap_alloc_same wq (.cells #[.int .i64 x] 3)
              have hcX := (Chg.refl [] wq).alloc (.cells #[.int .i64 x] 3)
              have rowX : (wq.alloc (.cells #[.int .i64 x] 3)).ownsRow w.heap.size 3 1 (.slice (some ⟨wq.heap.size, 0, none⟩) 1 1) 1 [.int .i64 x] := ⟨rfl, .inr ⟨wq.heap.size, 1, #[.int .i64 x], rfl, hbw, hnewX, Nat.le_refl _, by decide, rfl, rfl⟩⟩
              have newsD : ∀ W, Chg [] w W → ∀ b, (some ⟨g, 0, none⟩ : Option Addr) = some b → ∀ j u, ((T.drop 0).map (Value.int .i64))[j]? = some u → W.cell? (b.add j) = some u := fun W hW b hb j u hu => (cellsD H.out.1 hW 0 (by exact .inr rfl) b hb j u hu)
              have newsT : ∀ W, Chg [] w W → ∀ b, (some ⟨g, 0, none⟩ : Option Addr) = some b → ∀ j u, ((T.take 0).map (Value.int .i64))[j]? = some u → W.cell? (b.add j) = some u := fun W hW b hb j u hu => cellsT H.out.1 hW 0 b hb j u hu
              have lenD : ((T.drop 0).map (Value.int .i64)).length = n * 1 := by rw [List.length_map, List.length_drop]; omega
              have lenT : ((T.take 0).map (Value.int .i64)).length = 0 * 1 := by rw [List.length_map, List.length_take]; omega
              have bnd1 : 1 + n ≤ maxLen ∧ (1 + n) * 8 ≤ 140737488355328 := by simp only [maxLen]; omega
              have bnd2 : 0 + 0 ≤ maxLen ∧ (0 + 0) * 8 ≤ 140737488355328 := by simp only [maxLen]; omega
              have bnd3 : 0 + (1 + n) ≤ maxLen ∧ (0 + (1 + n)) * 8 ≤ 140737488355328 := by simp only [maxLen]; omega
              have hbX : w.heap.size ≤ (wq.alloc (.cells #[.int .i64 x] 3)).heap.size := by rw [World.size_alloc]; omega
              have HA := Lib.hid (And.intro rowX (And.intro newsD (And.intro newsT (And.intro lenD (And.intro lenT (And.intro bnd1 (And.intro bnd2 (And.intro bnd3 (And.intro hbX (hin.out.2.tr hcX))))))))))
              clear hTn hT6 hbw hnewX hcX rowX newsD newsT lenD lenT bnd1 bnd2 bnd3 hbX
              go_wp2_with (first | (at_builtin; refine wpList_append_two rfl _ _ 38 rfl w.heap.size 3 i0 _ 1 8 Try.underlying38 hi0 hz0 hz1 hz2 rfl (by decide) (.slice (some ⟨wq.heap.size, 0, none⟩) 1 1) 1 [.int .i64 x] rfl HA.out.1 (some ⟨g, 0, none⟩) n c ((T.drop 0).map (Value.int .i64)) rfl HA.out.2.2.2.1 (fun h => by cases h) (HA.out.2.1 _ HA.out.2.2.2.2.2.2.2.2.2) oneInts HA.out.2.2.2.2.2.1.1 HA.out.2.2.2.2.2.1.2 HA.out.2.2.2.2.2.2.2.2.1 ?_; intro v' w5 hr5 hg5 hor5; obtain ⟨a5, c5, rfl⟩ := ownsRow_slice hr5; have H5 : Hid (w5.ownsRow w.heap.size 3 1 (.slice a5 (1 + n) c5) (1 + n) ([Value.int .i64 x] ++ (T.drop 0).map (Value.int .i64)) ∧ Chg [] w w5) := Lib.hid ⟨hr5, HA.out.2.2.2.2.2.2.2.2.2.grown hg5 (fun k hk => .inr (by cases hk; exact hin.out.2.size))⟩; have row6 : (w5.alloc (.cells #[] 3)).ownsRow w.heap.size 3 1 (.slice (some ⟨w5.heap.size, 0, none⟩) 0 0) 0 [] := ⟨rfl, .inr ⟨w5.heap.size, 0, #[], rfl, H5.out.2.size, heap_alloc_same _ _, Nat.le_refl _, (by decide), rfl, rfl⟩⟩; have H6 := Lib.hid (And.intro row6 (And.intro (H5.out.2.alloc (.cells #[] 3)) ((Chg.refl [] w5).alloc (.cells #[] 3)))); clear hr5 hg5 hor5 row6) | (at_builtin; refine wpList_append_two rfl _ _ 38 rfl w.heap.size 3 i0 _ 1 8 Try.underlying38 hi0 hz0 hz1 hz2 rfl (by decide) (.slice (some ⟨w5.heap.size, 0, none⟩) 0 0) 0 [] rfl H6.out.1 (some ⟨g, 0, none⟩) 0 c ((T.take 0).map (Value.int .i64)) rfl HA.out.2.2.2.2.1 (fun h => by cases h) (HA.out.2.2.1 _ H6.out.2.1) oneInts HA.out.2.2.2.2.2.2.1.1 HA.out.2.2.2.2.2.2.1.2 H6.out.2.1.size ?_; intro v' w7 hr7 hg7 hor7; obtain ⟨a7, c7, rfl⟩ := ownsRow_slice hr7; have hr7' : w7.ownsRow w.heap.size 3 1 (.slice a7 0 c7) 0 ((T.take 0).map (Value.int .i64)) := (by simpa using hr7); have h57 : Chg [] w5 w7 := H6.out.2.2.grown hg7 (fun k hk => .inr (by cases hk; exact Nat.le_refl _)); have row5 := h57.row H5.out.1 (fun _ _ => by simp); have H7 := Lib.hid (And.intro hr7' (And.intro row5 (H5.out.2.tr h57))); clear hr7 hg7 hor7 hr7' h57 row5) | (at_builtin; refine wpList_append_two rfl _ _ 38 rfl w.heap.size 3 i0 _ 1 8 Try.underlying38 hi0 hz0 hz1 hz2 rfl (by decide) (.slice a7 0 c7) 0 ((T.take 0).map (Value.int .i64)) rfl H7.out.1 a5 (1 + n) c5 ([Value.int .i64 x] ++ (T.drop 0).map (Value.int .i64)) rfl (H7.out.2.1.1) (fun h => by subst h; exact absurd H7.out.2.1 (noRow (by omega))) (fun b hb => by subst hb; exact rowCells H7.out.2.1) oneX HA.out.2.2.2.2.2.2.2.1.1 HA.out.2.2.2.2.2.2.2.1.2 H7.out.2.2.size ?_; intro v' w8 hr8 hg8 hor8; obtain ⟨a8, c8, rfl⟩ := ownsRow_slice hr8; have H8 := Lib.hid (And.intro hr8 (H7.out.2.2.grown hg8 (fun k hk => .inr (row_beyond H7.out.1 hk).1))); clear hr8 hg8 hor8))
              go_ret
              have hE : addS T x = T.take 0 ++ x :: T.drop 0 := by
                have hTn := H.out.2.1
                rw [addS_cut (k := 0) (by omega) (fun j h hj => by omega) (fun h => by obtain ⟨_, e9⟩ := HZ.out; simp only [← e9]; omega), if_neg (by obtain ⟨h9, e9⟩ := HZ.out; rw [List.getElem?_eq_getElem h9, ← e9]; simp; omega)]
              exact addEnd hE (by have := H.out.2.1; simp only [List.length_append, List.length_cons, List.length_take, List.length_drop]; omega) H8.out.1 H8.out.2 ⟨_, _, rfl, by have := H.out.2.1; rw [hE]; simp only [List.length_append, List.length_cons, List.length_take, List.length_drop]; omega, rfl⟩
            · skip
              have hTn : T.length = n := H.out.2.1.symm
              have hT6 := H.out.2.2.1
              have hbw := hin.out.2.size
              have hnewX := heap_alloc_same wq (.cells #[.int .i64 x] 3)
              have hcX := (Chg.refl [] wq).alloc (.cells #[.int .i64 x] 3)
              have rowX : (wq.alloc (.cells #[.int .i64 x] 3)).ownsRow w.heap.size 3 1 (.slice (some ⟨wq.heap.size, 0, none⟩) 1 1) 1 [.int .i64 x] := ⟨rfl, .inr ⟨wq.heap.size, 1, #[.int .i64 x], rfl, hbw, hnewX, Nat.le_refl _, by decide, rfl, rfl⟩⟩
              have newsD : ∀ W, Chg [] w W → ∀ b, (some ⟨g, i, none⟩ : Option Addr) = some b → ∀ j u, ((T.drop i).map (Value.int .i64))[j]? = some u → W.cell? (b.add j) = some u := fun W hW b hb j u hu => (cellsD H.out.1 hW i (by exact .inr (by simp [Addr.add, hj0])) b hb j u hu)
              have newsT : ∀ W, Chg [] w W → ∀ b, (some ⟨g, 0, none⟩ : Option Addr) = some b → ∀ j u, ((T.take i).map (Value.int .i64))[j]? = some u → W.cell? (b.add j) = some u := fun W hW b hb j u hu => cellsT H.out.1 hW i b hb j u hu
              have lenD : ((T.drop i).map (Value.int .i64)).length = (n - i) * 1 := by rw [List.length_map, List.length_drop]; omega
              have lenT : ((T.take i).map (Value.int .i64)).length = i * 1 := by rw [List.length_map, List.length_take]; omega
              have bnd1 : 1 + (n - i) ≤ maxLen ∧ (1 + (n - i)) * 8 ≤ 140737488355328 := by simp only [maxLen]; omega
              have bnd2 : 0 + i ≤ maxLen ∧ (0 + i) * 8 ≤ 140737488355328 := by simp only [maxLen]; omega
              have bnd3 : i + (1 + (n - i)) ≤ maxLen ∧ (i + (1 + (n - i))) * 8 ≤ 140737488355328 := by simp only [maxLen]; omega
              have hbX : w.heap.size ≤ (wq.alloc (.cells #[.int .i64 x] 3)).heap.size := by rw [World.size_alloc]; omega
              have HA := Lib.hid (And.intro rowX (And.intro newsD (And.intro newsT (And.intro lenD (And.intro lenT (And.intro bnd1 (And.intro bnd2 (And.intro bnd3 (And.intro hbX (hin.out.2.tr hcX))))))))))
              clear hTn hT6 hbw hnewX hcX rowX newsD newsT lenD lenT bnd1 bnd2 bnd3 hbX
              go_wp2_with (first | (at_builtin; refine wpList_append_two rfl _ _ 38 rfl w.heap.size 3 i0 _ 1 8 Try.underlying38 hi0 hz0 hz1 hz2 rfl (by decide) (.slice (some ⟨wq.heap.size, 0, none⟩) 1 1) 1 [.int .i64 x] rfl HA.out.1 (some ⟨g, i, none⟩) (n - i) (c - i) ((T.drop i).map (Value.int .i64)) rfl HA.out.2.2.2.1 (fun h => by cases h) (HA.out.2.1 _ HA.out.2.2.2.2.2.2.2.2.2) oneInts HA.out.2.2.2.2.2.1.1 HA.out.2.2.2.2.2.1.2 HA.out.2.2.2.2.2.2.2.2.1 ?_; intro v' w5 hr5 hg5 hor5; obtain ⟨a5, c5, rfl⟩ := ownsRow_slice hr5; have H5 : Hid (w5.ownsRow w.heap.size 3 1 (.slice a5 (1 + (n - i)) c5) (1 + (n - i)) ([Value.int .i64 x] ++ (T.drop i).map (Value.int .i64)) ∧ Chg [] w w5) := Lib.hid ⟨hr5, HA.out.2.2.2.2.2.2.2.2.2.grown hg5 (fun k hk => .inr (by cases hk; exact hin.out.2.size))⟩; have row6 : (w5.alloc (.cells #[] 3)).ownsRow w.heap.size 3 1 (.slice (some ⟨w5.heap.size, 0, none⟩) 0 0) 0 [] := ⟨rfl, .inr ⟨w5.heap.size, 0, #[], rfl, H5.out.2.size, heap_alloc_same _ _, Nat.le_refl _, (by decide), rfl, rfl⟩⟩; have H6 := Lib.hid (And.intro row6 (And.intro (H5.out.2.alloc (.cells #[] 3)) ((Chg.refl [] w5).alloc (.cells #[] 3)))); clear hr5 hg5 hor5 row6) | (at_builtin; refine wpList_append_two rfl _ _ 38 rfl w.heap.size 3 i0 _ 1 8 Try.underlying38 hi0 hz0 hz1 hz2 rfl (by decide) (.slice (some ⟨w5.heap.size, 0, none⟩) 0 0) 0 [] rfl H6.out.1 (some ⟨g, 0, none⟩) i c ((T.take i).map (Value.int .i64)) rfl HA.out.2.2.2.2.1 (fun h => by cases h) (HA.out.2.2.1 _ H6.out.2.1) oneInts HA.out.2.2.2.2.2.2.1.1 HA.out.2.2.2.2.2.2.1.2 H6.out.2.1.size ?_; intro v' w7 hr7 hg7 hor7; obtain ⟨a7, c7, rfl⟩ := ownsRow_slice hr7; have hr7' : w7.ownsRow w.heap.size 3 1 (.slice a7 i c7) i ((T.take i).map (Value.int .i64)) := (by simpa using hr7); have h57 : Chg [] w5 w7 := H6.out.2.2.grown hg7 (fun k hk => .inr (by cases hk; exact Nat.le_refl _)); have row5 := h57.row H5.out.1 (fun _ _ => by simp); have H7 := Lib.hid (And.intro hr7' (And.intro row5 (H5.out.2.tr h57))); clear hr7 hg7 hor7 hr7' h57 row5) | (at_builtin; refine wpList_append_two rfl _ _ 38 rfl w.heap.size 3 i0 _ 1 8 Try.underlying38 hi0 hz0 hz1 hz2 rfl (by decide) (.slice a7 i c7) i ((T.take i).map (Value.int .i64)) rfl H7.out.1 a5 (1 + (n - i)) c5 ([Value.int .i64 x] ++ (T.drop i).map (Value.int .i64)) rfl (H7.out.2.1.1) (fun h => by subst h; exact absurd H7.out.2.1 (noRow (by omega))) (fun b hb => by subst hb; exact rowCells H7.out.2.1) oneX HA.out.2.2.2.2.2.2.2.1.1 HA.out.2.2.2.2.2.2.2.1.2 H7.out.2.2.size ?_; intro v' w8 hr8 hg8 hor8; obtain ⟨a8, c8, rfl⟩ := ownsRow_slice hr8; have H8 := Lib.hid (And.intro hr8 (H7.out.2.2.grown hg8 (fun k hk => .inr (row_beyond H7.out.1 hk).1))); clear hr8 hg8 hor8))
              go_ret
              have hE : addS T x = T.take i ++ x :: T.drop i := by
                have hTn := H.out.2.1
                rw [addS_cut (k := i) (by omega) (fun j h hj => hin.out.1 j h hj) (fun h => by obtain ⟨_, e9⟩ := HZ.out; simp only [← e9]; omega), if_neg (by obtain ⟨h9, e9⟩ := HZ.out; rw [List.getElem?_eq_getElem h9, ← e9]; simp; omega)]
              exact addEnd hE (by have := H.out.2.1; simp only [List.length_append, List.length_cons, List.length_take, List.length_drop]; omega) H8.out.1 H8.out.2 ⟨_, _, rfl, by have := H.out.2.1; rw [hE]; simp only [List.length_append, List.length_cons, List.length_take, List.length_drop]; omega, rfl⟩
      · obtain rfl : i = n := by omega
        by_cases hj0 : i = 0
        · subst hj0
          have hTn : T.length = 0 := H.out.2.1.symm
          have hT6 := H.out.2.2.1
          have hbw := hin.out.2.size
          have hnewX := heap_alloc_same wq (.cells #[.int .i64 x] 3)
          have hcX := (Chg.refl [] wq).alloc (.cells #[.int .i64 x] 3)
          have rowX : (wq.alloc (.cells #[.int .i64 x] 3)).ownsRow w.heap.size 3 1 (.slice (some ⟨wq.heap.size, 0, none⟩) 1 1) 1 [.int .i64 x] := ⟨rfl, .inr ⟨wq.heap.size, 1, #[.int .i64 x], rfl, hbw, hnewX, Nat.le_refl _, by decide, rfl, rfl⟩⟩
          have newsD : ∀ W, Chg [] w W → ∀ b, (some ⟨g, 0, none⟩ : Option Addr) = some b → ∀ j u, ((T.drop 0).map (Value.int .i64))[j]? = some u → W.cell? (b.add j) = some u := fun W hW b hb j u hu => (cellsD H.out.1 hW 0 (by exact .inr rfl) b hb j u hu)
          have newsT : ∀ W, Chg [] w W → ∀ b, (some ⟨g, 0, none⟩ : Option Addr) = some b → ∀ j u, ((T.take 0).map (Value.int .i64))[j]? = some u → W.cell? (b.add j) = some u := fun W hW b hb j u hu => cellsT H.out.1 hW 0 b hb j u hu
          have lenD : ((T.drop 0).map (Value.int .i64)).length = 0 * 1 := by rw [List.length_map, List.length_drop]; omega
          have lenT : ((T.take 0).map (Value.int .i64)).length = 0 * 1 := by rw [List.length_map, List.length_take]; omega
          have bnd1 : 1 + 0 ≤ maxLen ∧ (1 + 0) * 8 ≤ 140737488355328 := by simp only [maxLen]; omega
          have bnd2 : 0 + 0 ≤ maxLen ∧ (0 + 0) * 8 ≤ 140737488355328 := by simp only [maxLen]; omega
          have bnd3 : 0 + 1 ≤ maxLen ∧ (0 + 1) * 8 ≤ 140737488355328 := by simp only [maxLen]; omega
          have hbX : w.heap.size ≤ (wq.alloc (.cells #[.int .i64 x] 3)).heap.size := by rw [World.size_alloc]; omega
          have HA := Lib.hid (And.intro rowX (And.intro newsD (And.intro newsT (And.intro lenD (And.intro lenT (And.intro bnd1 (And.intro bnd2 (And.intro bnd3 (And.intro hbX (hin.out.2.tr hcX))))))))))
          clear hTn hT6 hbw hnewX hcX rowX newsD newsT lenD lenT bnd1 bnd2 bnd3 hbX
          go_wp2_with (first | (at_builtin; refine wpList_append_two rfl _ _ 38 rfl w.heap.size 3 i0 _ 1 8 Try.underlying38 hi0 hz0 hz1 hz2 rfl (by decide) (.slice (some ⟨wq.heap.size, 0, none⟩) 1 1) 1 [.int .i64 x] rfl HA.out.1 (some ⟨g, 0, none⟩) 0 c ((T.drop 0).map (Value.int .i64)) rfl HA.out.2.2.2.1 (fun h => by cases h) (HA.out.2.1 _ HA.out.2.2.2.2.2.2.2.2.2) oneInts HA.out.2.2.2.2.2.1.1 HA.out.2.2.2.2.2.1.2 HA.out.2.2.2.2.2.2.2.2.1 ?_; intro v' w5 hr5 hg5 hor5; obtain ⟨a5, c5, rfl⟩ := ownsRow_slice hr5; have H5 : Hid (w5.ownsRow w.heap.size 3 1 (.slice a5 1 c5) 1 ([Value.int .i64 x] ++ (T.drop 0).map (Value.int .i64)) ∧ Chg [] w w5) := Lib.hid ⟨hr5, HA.out.2.2.2.2.2.2.2.2.2.grown hg5 (fun k hk => .inr (by cases hk; exact hin.out.2.size))⟩; have row6 : (w5.alloc (.cells #[] 3)).ownsRow w.heap.size 3 1 (.slice (some ⟨w5.heap.size, 0, none⟩) 0 0) 0 [] := ⟨rfl, .inr ⟨w5.heap.size, 0, #[], rfl, H5.out.2.size, heap_alloc_same _ _, Nat.le_refl _, (by decide), rfl, rfl⟩⟩; have H6 := Lib.hid (And.intro row6 (And.intro (H5.out.2.alloc (.cells #[] 3)) ((Chg.refl [] w5).alloc (.cells #[] 3)))); clear hr5 hg5 hor5 row6) | (at_builtin; refine wpList_append_two rfl _ _ 38 rfl w.heap.size 3 i0 _ 1 8 Try.underlying38 hi0 hz0 hz1 hz2 rfl (by decide) (.slice (some ⟨w5.heap.size, 0, none⟩) 0 0) 0 [] rfl H6.out.1 (some ⟨g, 0, none⟩) 0 c ((T.take 0).map (Value.int .i64)) rfl HA.out.2.2.2.2.1 (fun h => by cases h) (HA.out.2.2.1 _ H6.out.2.1) oneInts HA.out.2.2.2.2.2.2.1.1 HA.out.2.2.2.2.2.2.1.2 H6.out.2.1.size ?_; intro v' w7 hr7 hg7 hor7; obtain ⟨a7, c7, rfl⟩ := ownsRow_slice hr7; have hr7' : w7.ownsRow w.heap.size 3 1 (.slice a7 0 c7) 0 ((T.take 0).map (Value.int .i64)) := (by simpa using hr7); have h57 : Chg [] w5 w7 := H6.out.2.2.grown hg7 (fun k hk => .inr (by cases hk; exact Nat.le_refl _)); have row5 := h57.row H5.out.1 (fun _ _ => by simp); have H7 := Lib.hid (And.intro hr7' (And.intro row5 (H5.out.2.tr h57))); clear hr7 hg7 hor7 hr7' h57 row5) | (at_builtin; refine wpList_append_two rfl _ _ 38 rfl w.heap.size 3 i0 _ 1 8 Try.underlying38 hi0 hz0 hz1 hz2 rfl (by decide) (.slice a7 0 c7) 0 ((T.take 0).map (Value.int .i64)) rfl H7.out.1 a5 1 c5 ([Value.int .i64 x] ++ (T.drop 0).map (Value.int .i64)) rfl (H7.out.2.1.1) (fun h => by subst h; exact absurd H7.out.2.1 (noRow (by omega))) (fun b hb => by subst hb; exact rowCells H7.out.2.1) oneX HA.out.2.2.2.2.2.2.2.1.1 HA.out.2.2.2.2.2.2.2.1.2 H7.out.2.2.size ?_; intro v' w8 hr8 hg8 hor8; obtain ⟨a8, c8, rfl⟩ := ownsRow_slice hr8; have H8 := Lib.hid (And.intro hr8 (H7.out.2.2.grown hg8 (fun k hk => .inr (row_beyond H7.out.1 hk).1))); clear hr8 hg8 hor8))
          go_ret
          have hE : addS T x = T.take 0 ++ x :: T.drop 0 := by
            have hTn := H.out.2.1
            rw [addS_cut (k := 0) (by omega) (fun j h hj => by omega) (fun h => by omega), if_neg (by rw [List.getElem?_eq_none (by omega)]; simp)]
          exact addEnd hE (by have := H.out.2.1; simp only [List.length_append, List.length_cons, List.length_take, List.length_drop]; omega) H8.out.1 H8.out.2 ⟨_, _, rfl, by have := H.out.2.1; rw [hE]; simp only [List.length_append, List.length_cons, List.length_take, List.length_drop]; omega, rfl⟩
        · by_cases hci : c = i
          · subst hci
            have hTn : T.length = c := H.out.2.1.symm
            have hT6 := H.out.2.2.1
            have hbw := hin.out.2.size
            have hnewX := heap_alloc_same wq (.cells #[.int .i64 x] 3)
            have hcX := (Chg.refl [] wq).alloc (.cells #[.int .i64 x] 3)
            have rowX : (wq.alloc (.cells #[.int .i64 x] 3)).ownsRow w.heap.size 3 1 (.slice (some ⟨wq.heap.size, 0, none⟩) 1 1) 1 [.int .i64 x] := ⟨rfl, .inr ⟨wq.heap.size, 1, #[.int .i64 x], rfl, hbw, hnewX, Nat.le_refl _, by decide, rfl, rfl⟩⟩
            have newsD : ∀ W, Chg [] w W → ∀ b, (some ⟨g, 0, none⟩ : Option Addr) = some b → ∀ j u, ((T.drop c).map (Value.int .i64))[j]? = some u → W.cell? (b.add j) = some u := fun W hW b hb j u hu => (cellsD H.out.1 hW c (by exact .inl (by omega)) b hb j u hu)
            have newsT : ∀ W, Chg [] w W → ∀ b, (some ⟨g, 0, none⟩ : Option Addr) = some b → ∀ j u, ((T.take c).map (Value.int .i64))[j]? = some u → W.cell? (b.add j) = some u := fun W hW b hb j u hu => cellsT H.out.1 hW c b hb j u hu
            have lenD : ((T.drop c).map (Value.int .i64)).length = 0 * 1 := by rw [List.length_map, List.length_drop]; omega
            have lenT : ((T.take c).map (Value.int .i64)).length = c * 1 := by rw [List.length_map, List.length_take]; omega
            have bnd1 : 1 + 0 ≤ maxLen ∧ (1 + 0) * 8 ≤ 140737488355328 := by simp only [maxLen]; omega
            have bnd2 : 0 + c ≤ maxLen ∧ (0 + c) * 8 ≤ 140737488355328 := by simp only [maxLen]; omega
            have bnd3 : c + 1 ≤ maxLen ∧ (c + 1) * 8 ≤ 140737488355328 := by simp only [maxLen]; omega
            have hbX : w.heap.size ≤ (wq.alloc (.cells #[.int .i64 x] 3)).heap.size := by rw [World.size_alloc]; omega
            have HA := Lib.hid (And.intro rowX (And.intro newsD (And.intro newsT (And.intro lenD (And.intro lenT (And.intro bnd1 (And.intro bnd2 (And.intro bnd3 (And.intro hbX (hin.out.2.tr hcX))))))))))
            clear hTn hT6 hbw hnewX hcX rowX newsD newsT lenD lenT bnd1 bnd2 bnd3 hbX
            go_wp2_with (first | (at_builtin; refine wpList_append_two rfl _ _ 38 rfl w.heap.size 3 i0 _ 1 8 Try.underlying38 hi0 hz0 hz1 hz2 rfl (by decide) (.slice (some ⟨wq.heap.size, 0, none⟩) 1 1) 1 [.int .i64 x] rfl HA.out.1 (some ⟨g, 0, none⟩) 0 0 ((T.drop c).map (Value.int .i64)) rfl HA.out.2.2.2.1 (fun h => by cases h) (HA.out.2.1 _ HA.out.2.2.2.2.2.2.2.2.2) oneInts HA.out.2.2.2.2.2.1.1 HA.out.2.2.2.2.2.1.2 HA.out.2.2.2.2.2.2.2.2.1 ?_; intro v' w5 hr5 hg5 hor5; obtain ⟨a5, c5, rfl⟩ := ownsRow_slice hr5; have H5 : Hid (w5.ownsRow w.heap.size 3 1 (.slice a5 1 c5) 1 ([Value.int .i64 x] ++ (T.drop c).map (Value.int .i64)) ∧ Chg [] w w5) := Lib.hid ⟨hr5, HA.out.2.2.2.2.2.2.2.2.2.grown hg5 (fun k hk => .inr (by cases hk; exact hin.out.2.size))⟩; have row6 : (w5.alloc (.cells #[] 3)).ownsRow w.heap.size 3 1 (.slice (some ⟨w5.heap.size, 0, none⟩) 0 0) 0 [] := ⟨rfl, .inr ⟨w5.heap.size, 0, #[], rfl, H5.out.2.size, heap_alloc_same _ _, Nat.le_refl _, (by decide), rfl, rfl⟩⟩; have H6 := Lib.hid (And.intro row6 (And.intro (H5.out.2.alloc (.cells #[] 3)) ((Chg.refl [] w5).alloc (.cells #[] 3)))); clear hr5 hg5 hor5 row6) | (at_builtin; refine wpList_append_two rfl _ _ 38 rfl w.heap.size 3 i0 _ 1 8 Try.underlying38 hi0 hz0 hz1 hz2 rfl (by decide) (.slice (some ⟨w5.heap.size, 0, none⟩) 0 0) 0 [] rfl H6.out.1 (some ⟨g, 0, none⟩) c c ((T.take c).map (Value.int .i64)) rfl HA.out.2.2.2.2.1 (fun h => by cases h) (HA.out.2.2.1 _ H6.out.2.1) oneInts HA.out.2.2.2.2.2.2.1.1 HA.out.2.2.2.2.2.2.1.2 H6.out.2.1.size ?_; intro v' w7 hr7 hg7 hor7; obtain ⟨a7, c7, rfl⟩ := ownsRow_slice hr7; have hr7' : w7.ownsRow w.heap.size 3 1 (.slice a7 c c7) c ((T.take c).map (Value.int .i64)) := (by simpa using hr7); have h57 : Chg [] w5 w7 := H6.out.2.2.grown hg7 (fun k hk => .inr (by cases hk; exact Nat.le_refl _)); have row5 := h57.row H5.out.1 (fun _ _ => by simp); have H7 := Lib.hid (And.intro hr7' (And.intro row5 (H5.out.2.tr h57))); clear hr7 hg7 hor7 hr7' h57 row5) | (at_builtin; refine wpList_append_two rfl _ _ 38 rfl w.heap.size 3 i0 _ 1 8 Try.underlying38 hi0 hz0 hz1 hz2 rfl (by decide) (.slice a7 c c7) c ((T.take c).map (Value.int .i64)) rfl H7.out.1 a5 1 c5 ([Value.int .i64 x] ++ (T.drop c).map (Value.int .i64)) rfl (H7.out.2.1.1) (fun h => by subst h; exact absurd H7.out.2.1 (noRow (by omega))) (fun b hb => by subst hb; exact rowCells H7.out.2.1) oneX HA.out.2.2.2.2.2.2.2.1.1 HA.out.2.2.2.2.2.2.2.1.2 H7.out.2.2.size ?_; intro v' w8 hr8 hg8 hor8; obtain ⟨a8, c8, rfl⟩ := ownsRow_slice hr8; have H8 := Lib.hid (And.intro hr8 (H7.out.2.2.grown hg8 (fun k hk => .inr (row_beyond H7.out.1 hk).1))); clear hr8 hg8 hor8))
            go_ret
            have hE : addS T x = T.take c ++ x :: T.drop c := by
              have hTn := H.out.2.1
              rw [addS_cut (k := c) (by omega) (fun j h hj => hin.out.1 j h hj) (fun h => by omega), if_neg (by rw [List.getElem?_eq_none (by omega)]; simp)]
            exact addEnd hE (by have := H.out.2.1; simp only [List.length_append, List.length_cons, List.length_take, List.length_drop]; omega) H8.out.1 H8.out.2 ⟨_, _, rfl, by have := H.out.2.1; rw [hE]; simp only [List.length_append, List.length_cons, List.length_take, List.length_drop]; omega, rfl⟩
          · skip
            have hTn : T.length = i := H.out.2.1.symm
            have hT6 := H.out.2.2.1
            have hbw := hin.out.2.size
            have hnewX := heap_alloc_same wq (.cells #[.int .i64 x] 3)
            have hcX := (Chg.refl [] wq).alloc (.cells #[.int .i64 x] 3)
            have rowX : (wq.alloc (.cells #[.int .i64 x] 3)).ownsRow w.heap.size 3 1 (.slice (some ⟨wq.heap.size, 0, none⟩) 1 1) 1 [.int .i64 x] := ⟨rfl, .inr ⟨wq.heap.size, 1, #[.int .i64 x], rfl, hbw, hnewX, Nat.le_refl _, by decide, rfl, rfl⟩⟩
            have newsD : ∀ W, Chg [] w W → ∀ b, (some ⟨g, i, none⟩ : Option Addr) = some b → ∀ j u, ((T.drop i).map (Value.int .i64))[j]? = some u → W.cell? (b.add j) = some u := fun W hW b hb j u hu => (cellsD H.out.1 hW i (by exact .inr (by simp [Addr.add, hj0])) b hb j u hu)
            have newsT : ∀ W, Chg [] w W → ∀ b, (some ⟨g, 0, none⟩ : Option Addr) = some b → ∀ j u, ((T.take i).map (Value.int .i64))[j]? = some u → W.cell? (b.add j) = some u := fun W hW b hb j u hu => cellsT H.out.1 hW i b hb j u hu
            have lenD : ((T.drop i).map (Value.int .i64)).length = 0 * 1 := by rw [List.length_map, List.length_drop]; omega
            have lenT : ((T.take i).map (Value.int .i64)).length = i * 1 := by rw [List.length_map, List.length_take]; omega
            have bnd1 : 1 + 0 ≤ maxLen ∧ (1 + 0) * 8 ≤ 140737488355328 := by simp only [maxLen]; omega
            have bnd2 : 0 + i ≤ maxLen ∧ (0 + i) * 8 ≤ 140737488355328 := by simp only [maxLen]; omega
            have bnd3 : i + 1 ≤ maxLen ∧ (i + 1) * 8 ≤ 140737488355328 := by simp only [maxLen]; omega
            have hbX : w.heap.size ≤ (wq.alloc (.cells #[.int .i64 x] 3)).heap.size := by rw [World.size_alloc]; omega
            have HA := Lib.hid (And.intro rowX (And.intro newsD (And.intro newsT (And.intro lenD (And.intro lenT (And.intro bnd1 (And.intro bnd2 (And.intro bnd3 (And.intro hbX (hin.out.2.tr hcX))))))))))
            clear hTn hT6 hbw hnewX hcX rowX newsD newsT lenD lenT bnd1 bnd2 bnd3 hbX
            go_wp2_with (first | (at_builtin; refine wpList_append_two rfl _ _ 38 rfl w.heap.size 3 i0 _ 1 8 Try.underlying38 hi0 hz0 hz1 hz2 rfl (by decide) (.slice (some ⟨wq.heap.size, 0, none⟩) 1 1) 1 [.int .i64 x] rfl HA.out.1 (some ⟨g, i, none⟩) 0 (c - i) ((T.drop i).map (Value.int .i64)) rfl HA.out.2.2.2.1 (fun h => by cases h) (HA.out.2.1 _ HA.out.2.2.2.2.2.2.2.2.2) oneInts HA.out.2.2.2.2.2.1.1 HA.out.2.2.2.2.2.1.2 HA.out.2.2.2.2.2.2.2.2.1 ?_; intro v' w5 hr5 hg5 hor5; obtain ⟨a5, c5, rfl⟩ := ownsRow_slice hr5; have H5 : Hid (w5.ownsRow w.heap.size 3 1 (.slice a5 1 c5) 1 ([Value.int .i64 x] ++ (T.drop i).map (Value.int .i64)) ∧ Chg [] w w5) := Lib.hid ⟨hr5, HA.out.2.2.2.2.2.2.2.2.2.grown hg5 (fun k hk => .inr (by cases hk; exact hin.out.2.size))⟩; have row6 : (w5.alloc (.cells #[] 3)).ownsRow w.heap.size 3 1 (.slice (some ⟨w5.heap.size, 0, none⟩) 0 0) 0 [] := ⟨rfl, .inr ⟨w5.heap.size, 0, #[], rfl, H5.out.2.size, heap_alloc_same _ _, Nat.le_refl _, (by decide), rfl, rfl⟩⟩; have H6 := Lib.hid (And.intro row6 (And.intro (H5.out.2.alloc (.cells #[] 3)) ((Chg.refl [] w5).alloc (.cells #[] 3)))); clear hr5 hg5 hor5 row6) | (at_builtin; refine wpList_append_two rfl _ _ 38 rfl w.heap.size 3 i0 _ 1 8 Try.underlying38 hi0 hz0 hz1 hz2 rfl (by decide) (.slice (some ⟨w5.heap.size, 0, none⟩) 0 0) 0 [] rfl H6.out.1 (some ⟨g, 0, none⟩) i c ((T.take i).map (Value.int .i64)) rfl HA.out.2.2.2.2.1 (fun h => by cases h) (HA.out.2.2.1 _ H6.out.2.1) oneInts HA.out.2.2.2.2.2.2.1.1 HA.out.2.2.2.2.2.2.1.2 H6.out.2.1.size ?_; intro v' w7 hr7 hg7 hor7; obtain ⟨a7, c7, rfl⟩ := ownsRow_slice hr7; have hr7' : w7.ownsRow w.heap.size 3 1 (.slice a7 i c7) i ((T.take i).map (Value.int .i64)) := (by simpa using hr7); have h57 : Chg [] w5 w7 := H6.out.2.2.grown hg7 (fun k hk => .inr (by cases hk; exact Nat.le_refl _)); have row5 := h57.row H5.out.1 (fun _ _ => by simp); have H7 := Lib.hid (And.intro hr7' (And.intro row5 (H5.out.2.tr h57))); clear hr7 hg7 hor7 hr7' h57 row5) | (at_builtin; refine wpList_append_two rfl _ _ 38 rfl w.heap.size 3 i0 _ 1 8 Try.underlying38 hi0 hz0 hz1 hz2 rfl (by decide) (.slice a7 i c7) i ((T.take i).map (Value.int .i64)) rfl H7.out.1 a5 1 c5 ([Value.int .i64 x] ++ (T.drop i).map (Value.int .i64)) rfl (H7.out.2.1.1) (fun h => by subst h; exact absurd H7.out.2.1 (noRow (by omega))) (fun b hb => by subst hb; exact rowCells H7.out.2.1) oneX HA.out.2.2.2.2.2.2.2.1.1 HA.out.2.2.2.2.2.2.2.1.2 H7.out.2.2.size ?_; intro v' w8 hr8 hg8 hor8; obtain ⟨a8, c8, rfl⟩ := ownsRow_slice hr8; have H8 := Lib.hid (And.intro hr8 (H7.out.2.2.grown hg8 (fun k hk => .inr (row_beyond H7.out.1 hk).1))); clear hr8 hg8 hor8))
            go_ret
            have hE : addS T x = T.take i ++ x :: T.drop i := by
              have hTn := H.out.2.1
              rw [addS_cut (k := i) (by omega) (fun j h hj => hin.out.1 j h hj) (fun h => by omega), if_neg (by rw [List.getElem?_eq_none (by omega)]; simp)]
            exact addEnd hE (by have := H.out.2.1; simp only [List.length_append, List.length_cons, List.length_take, List.length_drop]; omega) H8.out.1 H8.out.2 ⟨_, _, rfl, by have := H.out.2.1; rw [hE]; simp only [List.length_append, List.length_cons, List.length_take, List.length_drop]; omega, rfl⟩
/-- The like, of rows that are not the row NB. -/
def AddD (NB : Nat) (w : World) (T : List Int) (x : Int) (e : Ending) (w' : World) : Prop :=
  ∃ a c, e = .returned (.slice a (addS T x).length c) ∧ DocI NB w' a c (addS T x) ∧ Chg [] w w'
theorem addD_any {NB : Nat} (w : World) (a : Option Addr) (c : Nat) (T : List Int) (h : DocI NB w a c T) (hN : NB < w.heap.size) (hT : T.length ≤ 1000000) (x : Int) :
    Calls Try.prog 52 #[.slice a T.length c, .int .i64 x] w (AddD NB w T x) :=
  (add_any w a c T h.1 hT x).mono fun e w' hp => by
    obtain ⟨a', c', h1, h2, h3, h4⟩ := hp
    refine ⟨a', c', h1, ⟨h2, ?_⟩, h4⟩
    rcases h3 with rfl | h3
    · exact h.2
    · intro ad e1 e2
      have := h3 ad e1
      omega
end Go.Proofs.Ytnajhcoimohcaaa

/-
  Package well: the library's BinarySearch, Contains at numbers; a node that repeats; one whose kid may match nothing; a grammar at work.
  Conditions: the grammar reads as data, within the reach.
-/
import Derived.Test.YtibgfgfmljhimaaNuE
set_option linter.unusedVariables false
set_option linter.unusedSimpArgs false
set_option linter.unnecessarySimpa false
namespace Go.Proofs.Ytibgfgfmljhimaa
open Go.RowKit Go.MapKept Go.Shelf

/-! ### Plain -/
def idleB (g : Gr) (j : Nat) : Bool := match g.nodes[j]? with
  | none => false
  | some x => (decide (x.k = 8) || decide (x.k = 9)) && mayG g (x.kids.headD 0)
def idleL (g : Gr) : List Int := if rightB g = true then pickL g.nodes.length (idleB g) else []
theorem pickW_sorted (n : Nat) (F : Nat → Bool) : (pickL n F).Pairwise (· < ·) := by
  unfold pickL
  rw [List.pairwise_map]
  refine (List.Pairwise.filter _ (List.pairwise_lt_range)).imp ?_
  intro a b h
  omega
theorem pickW_mem {n : Nat} {F : Nat → Bool} {x : Int} : x ∈ pickL n F ↔ ∃ q : Nat, x = q ∧ q < n ∧ F q = true := by
  simp only [pickL, List.mem_map, List.mem_filter, List.mem_range]
  constructor
  · rintro ⟨q, ⟨h1, h2⟩, rfl⟩; exact ⟨q, rfl, h1, h2⟩
  · rintro ⟨q, rfl, h1, h2⟩; exact ⟨q, ⟨h1, h2⟩, rfl⟩
theorem pickW_split (n : Nat) (F : Nat → Bool) (j : Nat) (hj : j ≤ n) : ∃ l, pickL n F = pickL j F ++ l := by
  induction n with
  | zero => obtain rfl : j = 0 := by omega
            exact ⟨[], by simp⟩
  | succ n ih =>
    by_cases e : j = n + 1
    · subst e; exact ⟨[], by simp⟩
    · obtain ⟨l, hl⟩ := ih (by omega)
      exact ⟨l ++ if F n then [(n : Int)] else [], by rw [pickL_succ, hl, List.append_assoc]⟩
theorem right_rep {g : Gr} (h : rightB g = true) {n : Nat} (hn : n < g.nodes.length) (hk : g.nodes[n].k = 8 ∨ g.nodes[n].k = 9) : g.nodes[n].kids.length = 1 := by
  have h1 := right_node h hn
  unfold nodeB nodeN at h1
  repeat' split at h1
  all_goals first | omega | (rw [Bool.and_eq_true, decide_eq_true_eq] at h1; exact h1.2) | cases h1

/-- Where a number is, or would be. -/
def placeI (zs : List Int) (x : Int) : Nat := zs.countP fun z => decide (z < x)
theorem placeI_at {zs : List Int} {x : Int} {i : Nat} (hi : i ≤ zs.length) (h : ∀ k (h : k < zs.length), (k < i → zs[k] < x) ∧ (i ≤ k → x ≤ zs[k])) : placeI zs x = i := by
  unfold placeI
  rw [← List.take_append_drop i zs, List.countP_append, List.countP_eq_length.2, List.countP_eq_zero.2, List.length_take]
  · omega
  · intro z hz
    obtain ⟨j, hj, rfl⟩ := List.getElem_of_mem hz
    rw [List.length_drop] at hj
    have := (h (i + j) (by omega)).2 (by omega)
    rw [List.getElem_drop]
    simp; omega
  · intro z hz
    obtain ⟨j, hj, rfl⟩ := List.getElem_of_mem hz
    rw [List.length_take] at hj
    have := (h j (by omega)).1 (by omega)
    rw [List.getElem_take]
    simp; omega

/-! ### The library at numbers -/
theorem cmpNaN_any (w : World) (x : Int) : Calls Try.prog 167 #[.int .i64 x] w fun e w' => e = .returned (.bool false) ∧ w' = w := by
  go_enter Try.func167, Try.ntmps167
  go_wp2
  go_ret
  exact ⟨rfl, rfl⟩
theorem slNaN_any (w : World) (x : Int) : Calls Try.prog 166 #[.int .i64 x] w fun e w' => e = .returned (.bool false) ∧ w' = w := by
  go_enter Try.func166, Try.ntmps166
  go_wp2
  go_ret
  exact ⟨rfl, rfl⟩
theorem cmpLess_any (w : World) (x y : Int) : Calls Try.prog 165 #[.int .i64 x, .int .i64 y] w fun e w' => e = .returned (.bool (decide (x < y))) ∧ w' = w := by
  go_enter Try.func165, Try.ntmps165
  go_wp2_with fail
  refine (cmpNaN_any _ _).mono ?_
  rintro e w2 ⟨rfl, rfl⟩
  go_wp2
  go_ret
  exact ⟨rfl, rfl⟩

set_option maxRecDepth 100000 in
set_option maxHeartbeats 1000000 in
theorem search_any (w : World) (a : Option Addr) (n c : Nat) (zs : List Int) (x : Int) (hn : n = zs.length) (hs : n ≤ 100000) (hz : Ints w a zs) (ho : zs.Pairwise (· < ·)) :
    Calls Try.prog 163 #[.slice a n c, .int .i64 x] w fun e w' => e = .returned (.tuple #[.int .i64 (placeI zs x), .bool (decide (x ∈ zs))]) ∧ w' = w := by
  have H := Lib.hid (And.intro hn (And.intro hz ho))
  clear hn hz ho
  go_enter Try.func163, Try.ntmps163
  go_wp2_with fail
  go_loopg [7, 8, 9] n (fun d iv jv hv wr => ∃ i j : Nat, d = j - i ∧ i ≤ j ∧ j ≤ n ∧ iv = .int .i64 i ∧ jv = .int .i64 j ∧ wr = w ∧ Hid (∀ k (h : k < zs.length), (k < i → zs[k] < x) ∧ (j ≤ k → x ≤ zs[k])))
  case atStart => exact ⟨0, n, by omega, Nat.zero_le _, Nat.le_refl _, rfl, rfl, rfl, Lib.hid (fun k h => ⟨fun h' => by omega, fun h' => by have := H.out.1; omega⟩)⟩
  case round =>
    obtain ⟨i, j, hd, hi, hj, rfl, rfl, hwr, hin⟩ := hrel
    replace hwr := hwr.symm
    subst hwr
    by_cases hlt : i < j
    · have hw1 : IntKind.u64.wrap ((i : Int) + j) = (i : Int) + j := by rw [show (i : Int) + j = ((i + j : Nat) : Int) by omega]; exact IntWalk.u64_in _ (by omega)
      obtain ⟨m, hmid⟩ : ∃ m : Nat, ((i : Int) + j) / 2 = m := ⟨(i + j) / 2, by omega⟩
      have hm : i ≤ m ∧ m < j ∧ m < n := by omega
      have hml : m < zs.length := by have := H.out.1; omega
      obtain ⟨b, o, rfl, hcz⟩ := H.out.2.1 m hml
      obtain ⟨v, hv⟩ : ∃ v, v = zs[m] := ⟨_, rfl⟩
      rw [← hv] at hcz
      have HV := Lib.hid (And.intro hml hv)
      obtain ⟨hm1, hm2, hm3⟩ := hm
      clear hv
      go_wp2_with fail
      refine (cmpLess_any _ _ _).mono ?_
      rintro e w2 ⟨rfl, rfl⟩
      by_cases hvx : v < x
      · go_wp2_with fail
        go_roundg (j - (m + 1))
        case measure => omega
        case rel =>
          refine ⟨m + 1, j, rfl, by omega, hj, by go_num, rfl, rfl, Lib.hid fun k h => ⟨fun h' => ?_, (hin.out k h).2⟩⟩
          by_cases e : k = m
          · subst e; rw [← HV.out.2]; exact hvx
          · have h1 : zs[k] < zs[m]'HV.out.1 := List.pairwise_iff_getElem.1 H.out.2.2 k m h HV.out.1 (by omega)
            rw [← HV.out.2] at h1
            omega
      · go_wp2_with fail
        go_roundg (m - i)
        case measure => omega
        case rel =>
          refine ⟨i, m, rfl, hm1, by omega, rfl, by go_num, rfl, Lib.hid fun k h => ⟨(hin.out k h).1, fun h' => ?_⟩⟩
          by_cases e : k = m
          · subst e; rw [← HV.out.2]; omega
          · have h1 : zs[m]'HV.out.1 < zs[k] := List.pairwise_iff_getElem.1 H.out.2.2 m k HV.out.1 h (by omega)
            rw [← HV.out.2] at h1
            omega
    · obtain rfl : i = j := by omega
      have hpl := placeI_at (by have := H.out.1; omega) hin.out
      have HP := Lib.hid hpl
      clear hpl
      have hmem : ∀ (hl : i < zs.length), x ∈ zs ↔ zs[i] = x := fun hl => by
        constructor
        · intro hx
          obtain ⟨k, hk, he⟩ := List.getElem_of_mem hx
          by_cases e : k = i
          · subst e; exact he
          · by_cases h1 : k < i
            · have := (hin.out k hk).1 h1; omega
            · have h2 := List.pairwise_iff_getElem.1 H.out.2.2 i k hl hk (by omega)
              have := (hin.out i hl).2 (Nat.le_refl _); omega
        · rintro rfl; exact List.getElem_mem _
      by_cases hin2 : i < n
      · have hl : i < zs.length := by have := H.out.1; omega
        obtain ⟨b, o, rfl, hcz⟩ := H.out.2.1 i hl
        obtain ⟨v, hv⟩ : ∃ v, v = zs[i] := ⟨_, rfl⟩
        rw [← hv] at hcz
        have hm2 := hmem hl
        rw [← hv] at hm2
        have HV := Lib.hid hm2
        clear hmem hm2 hv
        by_cases hvx : v = x
        · have h1 : (v == x) = true := by simpa using hvx
          have HX := Lib.hid hvx
          clear hvx
          go_wp2_with fail
          refine bodyPost_ret (v := .tuple #[.int .i64 i, .bool true]) (by simp [results, Try.results163, go_sem]) rfl ?_
          exact ⟨by rw [decide_eq_true (HV.out.2 HX.out), HP.out], rfl⟩
        · have h1 : (v == x) = false := by simpa using hvx
          have HX := Lib.hid hvx
          clear hvx
          go_wp2_with fail
          refine (slNaN_any _ _).mono ?_
          rintro e w2 ⟨rfl, rfl⟩
          go_wp2_with fail
          refine bodyPost_ret (v := .tuple #[.int .i64 i, .bool false]) (by simp [results, Try.results163, go_sem]) rfl ?_
          exact ⟨by rw [decide_eq_false (fun h => HX.out (HV.out.1 h)), HP.out], rfl⟩
      · have hno : x ∉ zs := fun hx => by
          obtain ⟨k, hk, he⟩ := List.getElem_of_mem hx
          have := (hin.out k hk).1 (by have := H.out.1; omega)
          omega
        have HX := Lib.hid hno
        clear hmem hno
        go_wp2_with fail
        refine bodyPost_ret (v := .tuple #[.int .i64 i, .bool false]) (by simp [results, Try.results163, go_sem]) rfl ?_
        exact ⟨by rw [decide_eq_false HX.out, HP.out], rfl⟩

set_option maxRecDepth 100000 in
set_option maxHeartbeats 1000000 in
theorem contains_any (w : World) (a : Option Addr) (n c : Nat) (zs : List Int) (x : Int) (hn : n = zs.length) (hs : n ≤ 100000) (hz : Ints w a zs) :
    Calls Try.prog 127 #[.slice a n c, .int .i64 x] w fun e w' => e = .returned (.bool (decide (x ∈ zs))) ∧ w' = w := by
  obtain ⟨r, hr⟩ : ∃ r, r = decide (x ∈ zs) := ⟨_, rfl⟩
  rw [← hr]
  have hidx : Calls Try.prog 153 #[.slice a n c, .int .i64 x] w fun e w' => (∃ i : Int, e = .returned (.int .i64 i) ∧ (decide (0 ≤ i) = r)) ∧ w' = w := by
    rw [hr]
    clear hr
    have H := Lib.hid (And.intro hn hz)
    clear hn hz
    go_enter Try.func153, Try.ntmps153
    go_wp2_with fail
    go_loopg [8] n (fun d iv wr => ∃ k : Nat, d = n - k ∧ k ≤ n ∧ iv = .int .i64 k ∧ wr = w ∧ Hid (∀ j (h : j < zs.length), j < k → x ≠ zs[j]))
    case atStart => exact ⟨0, rfl, Nat.zero_le _, rfl, rfl, Lib.hid (fun j _ h => by omega)⟩
    case round =>
      obtain ⟨k, rfl, hk, rfl, hwr, hb⟩ := hrel
      replace hwr := hwr.symm
      subst hwr
      by_cases hlt : k < n
      · have hk' : k < zs.length := by have := H.out.1; omega
        obtain ⟨b, o, rfl, hcz⟩ := H.out.2 k hk'
        obtain ⟨v, hv⟩ : ∃ v, v = zs[k] := ⟨_, rfl⟩
        rw [← hv] at hcz
        have HV := Lib.hid (And.intro hk' hv)
        clear hv
        by_cases hvx : x = v
        · have h1 : (x == v) = true := by simpa using hvx
          have HX := Lib.hid hvx
          clear hvx
          go_wp2_with fail
          go_ret
          refine ⟨⟨_, rfl, ?_⟩, rfl⟩
          rw [decide_eq_true (show (0 : Int) ≤ k by omega), decide_eq_true]
          rw [HX.out, HV.out.2]
          exact List.getElem_mem _
        · have h1 : (x == v) = false := by simpa using hvx
          have HX := Lib.hid hvx
          clear hvx
          go_wp2_with fail
          go_roundg (n - (k + 1))
          case measure => omega
          case rel =>
            refine ⟨k + 1, rfl, by omega, by go_num, rfl, Lib.hid fun j h hj => ?_⟩
            by_cases e : j = k
            · subst e; rw [← HV.out.2]; exact HX.out
            · exact hb.out j h (by omega)
      · obtain rfl : k = n := by omega
        go_wp2_with fail
        go_ret
        refine ⟨⟨_, rfl, ?_⟩, rfl⟩
        rw [decide_eq_false (by omega), decide_eq_false]
        intro hx
        obtain ⟨j, hj, he⟩ := List.getElem_of_mem hx
        exact hb.out j hj (by have := H.out.1; omega) he.symm
  have HI := Lib.hid hidx
  clear hidx hz hn hr
  go_enter Try.func127, Try.ntmps127
  go_wp2_with fail
  refine HI.out.mono ?_
  rintro e w2 ⟨⟨i, rfl, hi⟩, rfl⟩
  clear HI
  go_wp2_with fail
  go_ret
  exact ⟨rfl, rfl⟩
end Go.Proofs.Ytibgfgfmljhimaa

/-
  SeedNests answers true, and touches nothing that was there.
  Conditions: the slice reads as a row of int64s.
-/
import Derived.Test.YtffjfkjlahdedaaSeedI
import Derived.Test.YtffjfkjlahdedaaSeedJ
import Derived.Test.YtffjfkjlahdedaaNestsL
import Derived.Deep.QuietTactic
import Derived.BigQuiet
namespace Go.Proofs.Ytffjfkjlahdedaa
open Go.RowKit Go.MapKept

/-- The pairs that went live: rules below 9, places below 5, grown to the place in the row of numbers. -/
def NestOk (i : Nat) (s : St) : Prop :=
  s.length ≤ i ∧ (∀ x ∈ s, 0 ≤ x.1.1 ∧ x.1.1 < 9 ∧ 0 ≤ x.1.2 ∧ x.1.2 < 5 ∧ ∃ e, x.2 = some (e, 0, [])) ∧ (i = 0 ∧ s = [] ∨ ∃ q tl, s = (q, some (0, 0, [])) :: tl)
def ruleCells (s : St) : List Value := s.map fun x => .int .i64 x.1.1
def placeCells (s : St) : List Value := s.map fun x => .int .i64 x.1.2
/-- The store, and the two rows beside it. -/
structure Nest (w : World) (b m : Nat) (s : St) (ar ap : Option Addr) (n cr cp : Nat) (wr : World) : Prop where
  store : ∃ v, StoreAt wr b v m s ∧ FreshAt w.heap.size b v m
  rules : wr.ownsRow 0 3 1 (.slice ar n cr) n (ruleCells s)
  places : wr.ownsRow 0 3 1 (.slice ap n cp) n (placeCells s)
  apart : ∀ j, (Value.slice ar n cr).ownBlock = some j → (Value.slice ap n cp).ownBlock ≠ some j
  fr : ∀ j, (Value.slice ar n cr).ownBlock = some j → w.heap.size ≤ j
  fp : ∀ j, (Value.slice ap n cp).ownBlock = some j → w.heap.size ≤ j
  chg : Chg [] w wr

/-- The same, the last pairs having ended. -/
structure Nest2 (w : World) (b m : Nat) (s : St) (j : Nat) (ar ap : Option Addr) (cr cp : Nat) (wr : World) : Prop where
  store : ∃ v, StoreAt wr b v m (s.take j) ∧ FreshAt w.heap.size b v m
  rules : wr.ownsRow 0 3 1 (.slice ar s.length cr) s.length (ruleCells s)
  places : wr.ownsRow 0 3 1 (.slice ap s.length cp) s.length (placeCells s)
  chg : Chg [] w wr
theorem Nest2.keep {w wr w' : World} {b m j : Nat} {s : St} {ar ap : Option Addr} {cr cp : Nat} (h : Nest2 w b m s j ar ap cr cp wr) (hc : Chg [] wr w') : Nest2 w b m s j ar ap cr cp w' := by
  obtain ⟨⟨v, hs, hf⟩, hr, hp, hch⟩ := h
  exact ⟨⟨v, hs.keep hc, hf⟩, hc.row hr (by simp), hc.row hp (by simp), hch.tr hc⟩
theorem ints_cell {w : World} {a : Option Addr} {n c : Nat} {xs : List Value} (h : w.ownsRow 0 3 1 (.slice a n c) n xs) {i : Nat} (hi : i < xs.length) : ∃ g, a = some ⟨g, 0, none⟩ ∧ w.cell? ⟨g, i, none⟩ = some xs[i] ∧ n ≤ c := by
  rcases h.2 with ⟨_, h0⟩ | ⟨g, cap, cur, hv, _, _, hnc, _⟩
  · have := h.1; omega
  · simp only [Value.slice.injEq] at hv
    obtain ⟨rfl, _, rfl⟩ := hv
    refine ⟨g, rfl, ?_, hnc⟩
    have := h.cells (g := g) rfl i xs[i] (List.getElem?_eq_getElem hi)
    simpa [Addr.add_lit] using this
theorem St.get_mem {s : St} {q : Int × Int} {f : Found} (h : s.get q = some f) : (q, f) ∈ s := by
  unfold St.get at h
  cases hf : s.find? (fun x => x.1 = q) with
  | none => rw [hf] at h; cases h
  | some y =>
    rw [hf] at h
    simp at h
    have h1 := List.find?_some hf
    simp at h1
    have := List.mem_of_find?_eq_some hf
    obtain ⟨y1, y2⟩ := y
    simp at h h1
    subst h; subst h1
    exact this
theorem nestOk_push {k : Nat} {s : St} {r p : Int} (h : NestOk k s) (h1 : 0 ≤ r) (h2 : r < 9) (h3 : 0 ≤ p) (h4 : p < 5) : NestOk (k + 1) (s ++ [((r, p), some ((k : Int), 0, []))]) := by
  obtain ⟨ha, hb, hc⟩ := h
  refine ⟨by simp; omega, ?_, .inr ?_⟩
  · intro x hx
    rcases List.mem_append.1 hx with hx | hx
    · exact hb x hx
    · simp at hx; subst hx; exact ⟨h1, h2, h3, h4, k, rfl⟩
  · rcases hc with ⟨rfl, rfl⟩ | ⟨q, tl, rfl⟩
    · exact ⟨(r, p), [], rfl⟩
    · exact ⟨q, tl ++ [((r, p), some ((k : Int), 0, []))], rfl⟩
theorem nestOk_stay {k : Nat} {s : St} {q : Int × Int} (h : NestOk k s) (hq : q ∈ s.map (·.1)) : NestOk (k + 1) s := by
  obtain ⟨ha, hb, hc⟩ := h
  refine ⟨by omega, hb, .inr ?_⟩
  rcases hc with ⟨_, rfl⟩ | hc
  · simp at hq
  · exact hc
theorem nest_read_in {k : Nat} {s : St} {q : Int × Int} (h : NestOk k s) (hq : q ∈ s.map (·.1)) : ∃ e, s.read q 0 = (some (e, 0, []), 3) := by
  obtain ⟨f, hf⟩ := St.get_some hq
  obtain ⟨_, _, _, _, e, he⟩ := h.2.1 _ (St.get_mem hf)
  simp only at he
  subst he
  exact ⟨e, by simp [St.read, hf]⟩
theorem own_notInt {w : World} {b m : Nat} {v : Value} {s : St} (h : StoreAt w b v m s) : ∀ k ∈ own b v m, NotRow w 3 k := by
  obtain ⟨M, hM, _⟩ := h.map
  obtain ⟨es, c, hm⟩ := hM.block
  intro k hk
  simp only [own, List.mem_cons, Option.mem_toList] at hk
  rcases hk with rfl | rfl | hk
  · exact NotRow.of_cells h.head (by decide)
  · exact NotRow.of_map hm
  · rcases h.row.2 with ⟨rfl, _⟩ | ⟨g, cap, cur, rfl, _, hg, _⟩
    · cases hk
    · cases hk
      exact NotRow.of_cells hg (by decide)
theorem own_notBox {w : World} {b m k : Nat} {v : Value} {s : St} {cs : Array Value} (h : StoreAt w b v m s) (hk : w.heap[k]? = some (.cells cs 36 (0, 0))) : k ∉ own b v m := by
  obtain ⟨M, hM, _⟩ := h.map
  obtain ⟨es, c, hm⟩ := hM.block
  intro hj
  simp only [own, List.mem_cons, Option.mem_toList] at hj
  rcases hj with rfl | rfl | hj
  · rw [h.head] at hk; simp at hk
  · rw [hm] at hk; simp at hk
  · rcases h.row.2 with ⟨rfl, _⟩ | ⟨g, cap, cur, rfl, _, hg, _⟩
    · cases hj
    · cases hj
      rw [hg] at hk
      simp at hk
theorem StoreAt.keepS {w w' : World} {b m : Nat} {v : Value} {s : St} {S : List Nat} (h : StoreAt w b v m s) (hc : Chg S w w') (h1 : ∀ k ∈ S, k ∉ own b v m) (h2 : ∀ k ∈ S, NotRow w 33 k) : StoreAt w' b v m s := by
  obtain ⟨M, hM, hg⟩ := h.map
  refine ⟨hc.heap h.head (fun hm => h1 _ hm (by simp [own])), hc.row h.row (fun k hk hm => h1 _ hm (by simp [own, hk])), ⟨M, hM.chg hc (fun hm => h1 _ hm (by simp [own])), fun q => ?_⟩, h.keys, h.wf⟩
  have := hg q
  cases hq : s.get q with
  | none => rw [hq] at this; exact this
  | some f =>
    rw [hq] at this
    obtain ⟨val, h3, h4⟩ := this
    exact ⟨val, h3, h4.keepS hc h2⟩
/-- A row of ints grows beside the store. -/
theorem StoreAt.grown {w w' : World} {b m n cr : Nat} {v : Value} {s : St} {a : Option Addr} {xs : List Value} (h : StoreAt w b v m s) (hr : w.ownsRow 0 3 1 (.slice a n cr) n xs) (hg : w.grownBy w' (Value.slice a n cr).ownBlock) : StoreAt w' b v m s := by
  refine h.keepS (S := (Value.slice a n cr).ownBlock.toList) ((Chg.refl _ _).grown hg (fun k hk => .inl (by simpa using hk))) (fun k hk hm => ?_) (fun k hk => ?_)
  · exact own_notInt h k hm _ _ _ _ _ hr (by simpa using hk)
  · rcases hr.2 with ⟨h0, _⟩ | ⟨g, cap, cur, hv, _, hgg, _⟩
    · rw [h0] at hk; simp [Value.ownBlock] at hk
    · rw [hv] at hk
      simp [Value.ownBlock] at hk
      subst hk
      exact NotRow.of_cells hgg (by decide)
theorem row_beside {w w' : World} {e n n' size : Nat} {u v : Value} {xs : List Value} (h : w.ownsRow 0 e size v n xs) (hg : w.grownBy w' u.ownBlock) (ha : ∀ j, u.ownBlock = some j → v.ownBlock ≠ some j) : w'.ownsRow 0 e size v n xs := by
  refine h.kept hg ?_
  cases hv : v.ownBlock with
  | none => exact .inl rfl
  | some j => exact .inr (fun e => ha j e.symm hv)
theorem nest_keep {w wr w' : World} {b m : Nat} {s : St} {ar ap : Option Addr} {n cr cp : Nat} (h : Nest w b m s ar ap n cr cp wr) (hc : Chg [] wr w') : Nest w b m s ar ap n cr cp w' := by
  obtain ⟨⟨v, hs, hf⟩, hr, hp, ha, h1, h2, hch⟩ := h
  exact ⟨⟨v, hs.keep hc, hf⟩, hc.row hr (by simp), hc.row hp (by simp), ha, h1, h2, hch.tr hc⟩

set_option maxRecDepth 100000 in
set_option maxHeartbeats 8000000 in
theorem nests_any (w : World) (a : Option Addr) (len cap : Nat) (hlen : len ≤ maxLen)
    (hcell : ∀ k, k < len → ∃ B O x, a = some ⟨B, O, none⟩ ∧ I64 x ∧ w.cell? ⟨B, O + k, none⟩ = some (.int .i64 x)) :
    Calls Try.prog 4 #[.slice a len cap] w fun e w' => e = .returned (.bool true) ∧ Chg [] w w' := by
  unfold maxLen at hlen
  obtain ⟨i0, hi, hz0, hz1, hz2⟩ := info_parts Try.infoInt
  have HC := Lib.hid hcell
  clear hcell
  by_cases hg : 200 < len
  · go_enter Try.func4, Try.ntmps4
    go_wp2_with fail
    refine (awake_any _).mono ?_
    rintro e w1 ⟨rfl, hc1⟩
    have H1 := Lib.hid hc1
    clear hc1
    go_wp2
    go_ret
    exact ⟨rfl, H1.out⟩
  · have g1 : len ≤ 200 := by omega
    clear hg
    go_enter Try.func4, Try.ntmps4
    go_wp2_with fail
    refine (awake_any _).mono ?_
    rintro e w1 ⟨rfl, hc1⟩
    have H1 := Lib.hid hc1
    clear hc1
    go_wp2_with fail
    refine (new_any _).mono ?_
    rintro e w2 ⟨rfl, hs2, hc2⟩
    obtain ⟨b, hb⟩ : ∃ b, b = w1.heap.size + 1 := ⟨_, rfl⟩
    obtain ⟨m, hm⟩ : ∃ m, m = w1.heap.size := ⟨_, rfl⟩
    rw [← hb, ← hm] at hs2
    rw [← hb]
    have H2 := Lib.hid (And.intro hs2 (And.intro hc2 (And.intro hb hm)))
    clear hs2 hc2 hb hm
    go_wp2_with fail
    go_loopg [4, 5, 6] len (fun g rv pv iv wr => ∃ (k n cr cp : Nat) (ar ap : Option Addr) (s : St), g = len - k ∧ k ≤ len ∧ rv = .slice ar n cr ∧ pv = .slice ap n cp ∧ iv = .int .i64 k ∧ n = s.length ∧ NestOk k s ∧ Nest w b m s ar ap n cr cp wr)
    case atStart =>
      have hsz1 := H1.out.size
      obtain ⟨hb, hm⟩ := H2.out.2.2
      refine ⟨0, 0, 0, 0, none, none, [], rfl, Nat.zero_le _, rfl, rfl, rfl, rfl, ⟨Nat.le_refl _, by simp, .inl ⟨rfl, rfl⟩⟩, ⟨_, H2.out.1, ?_⟩, World.ownsRow_nil _ _ _ _, World.ownsRow_nil _ _ _ _, (by intro j hj; cases hj), (by intro j hj; cases hj), (by intro j hj; cases hj), H1.out.tr H2.out.2.1⟩
      intro j hj
      simp only [own, List.mem_cons, Option.mem_toList] at hj
      rcases hj with rfl | rfl | hj
      · omega
      · omega
      · cases hj
    case round =>
      obtain ⟨k, n, cr, cp, ar, ap, s, rfl, hk, rfl, rfl, rfl, hn, hok, hne⟩ := hrel
      have HR := Lib.hid (And.intro hn (And.intro hok hne))
      clear hn hok hne
      by_cases hlt : k < len
      · obtain ⟨B, O, x, rfl, hx, hxc⟩ := HC.out k hlt
        have hxc2 := HR.out.2.2.chg.cell hxc (by simp)
        obtain ⟨x1, x2⟩ := hx
        have d1 : -9223372036854775808 ≤ x.tdiv 9 := by have := Int.mul_tdiv_add_tmod x 9; have := Int.tmod_lt_of_pos x (show (0 : Int) < 9 by decide); have := Int.lt_tmod_of_pos x (show (0 : Int) < 9 by decide); omega
        have d2 : x.tdiv 9 ≤ 9223372036854775807 := by have := Int.mul_tdiv_add_tmod x 9; have := Int.tmod_lt_of_pos x (show (0 : Int) < 9 by decide); have := Int.lt_tmod_of_pos x (show (0 : Int) < 9 by decide); omega
        have HX := Lib.hid (And.intro x1 (And.intro x2 hxc))
        go_wp2_with fail
        go_quiet ((go_at_call 10; exact Calls.quiet_of_same ((pick_any _ _ _ (by omega) (by omega) (by omega) (by omega)).mono fun _ _ h => ⟨h.1, h.2.symm⟩)))
        go_wp2_with fail
        have hr1 := Int.emod_nonneg x (show (9 : Int) ≠ 0 by decide)
        have hr2 := Int.emod_lt_of_pos x (show (0 : Int) < 9 by decide)
        have hp1 := Int.emod_nonneg (x.tdiv 9) (show (5 : Int) ≠ 0 by decide)
        have hp2 := Int.emod_lt_of_pos (x.tdiv 9) (show (0 : Int) < 5 by decide)
        obtain ⟨r, hr⟩ : ∃ r, r = x % 9 := ⟨_, rfl⟩
        obtain ⟨p, hp⟩ : ∃ p, p = x.tdiv 9 % 5 := ⟨_, rfl⟩
        rw [← hr] at hr1 hr2
        rw [← hp] at hp1 hp2
        rw [← hr, ← hp]
        have ir : I64 r := ⟨by omega, by omega⟩
        have ip : I64 p := ⟨by omega, by omega⟩
        have HQ := Lib.hid (And.intro ir (And.intro ip (And.intro hr hp)))
        clear ir ip hr hp x1 x2 hxc2 d1 d2 hxc
        have hnd := nest_keep HR.out.2.2 ((Chg.refl [] wr).drewN nq)
        obtain ⟨v, hs, hfr⟩ := hnd.store
        have hsl : s.length ≤ k := HR.out.2.1.1
        have HD := Lib.hid (And.intro hs (And.intro hfr hnd))
        clear hs hfr hnd
        by_cases hq : (r, p) ∈ s.map (·.1)
        · obtain ⟨e, he⟩ := nest_read_in HR.out.2.1 hq
          refine (Read_eq (q := (r, p)) he _ b m v HD.out.1 HQ.out.1 HQ.out.2.1).mono ?_
          rintro e1 w3 ⟨v3, rfl, ⟨a3, c3, rfl, ht3⟩, hc3⟩
          have H3 := Lib.hid hc3
          have HM := Lib.hid hq
          clear hc3 ht3 hq
          go_wp2_with fail
          refine (begin_eq (q := (r, p)) (x := 8) (s' := s) (if_pos HM.out) (if_pos HM.out) _ b m v (HD.out.1.keep (H3.out.alloc _)) HQ.out.1 HQ.out.2.1 (by omega)).mono ?_
          rintro e4 w4 ⟨v4, rfl, hs4, hc4, hk4⟩
          have H4 := Lib.hid (And.intro hs4 (And.intro hc4 hk4))
          clear hs4 hc4 hk4
          go_wp2
          go_roundg (len - (k + 1))
          case measure => omega
          case rel =>
            obtain ⟨hs4, hc4, hk4⟩ := H4.out
            obtain ⟨hs, hfr, hnd⟩ := HD.out
            have hc03 := H3.out.alloc (.cells #[.int .i64 e, .int .i64 0, .slice a3 0 c3] 36)
            have hkr := own_notInt (hs.keep hc03)
            refine ⟨k + 1, n, cr, cp, ar, ap, s, rfl, by omega, rfl, rfl, by go_num, HR.out.1, nestOk_stay HR.out.2.1 HM.out, ⟨v4, hs4, ?_⟩, hc4.rowOf (hc03.row hnd.rules (by simp)) hkr, hc4.rowOf (hc03.row hnd.places (by simp)) hkr, hnd.apart, hnd.fr, hnd.fp, (hnd.chg.tr hc03).trans hc4 (fun j hj => .inr (hfr j hj))⟩
            intro j hj
            simp only [own, List.mem_cons, Option.mem_toList] at hj
            rcases hj with rfl | rfl | hj
            · exact hfr _ (by simp [own])
            · exact hfr _ (by simp [own])
            · rcases hk4 j hj with h | h
              · exact hfr j (by simp [own, h])
              · have := hc03.size; have := hnd.chg.size; omega
        · have HM := Lib.hid hq
          clear hq
          refine (Read_eq (q := (r, p)) (x := none) (y := 1) (by simp [St.read, St.get_none HM.out]) _ b m v HD.out.1 HQ.out.1 HQ.out.2.1).mono ?_
          rintro e1 w3 ⟨v3, rfl, hv3, hc3⟩
          obtain rfl := seed_none hv3
          have H3 := Lib.hid hc3
          clear hc3 hv3
          go_wp2_with fail
          refine (begin_eq (q := (r, p)) (x := 0) (s' := s ++ [((r, p), none)]) (if_neg HM.out) (if_neg HM.out) _ b m v (HD.out.1.keep (H3.out.alloc _)) HQ.out.1 HQ.out.2.1 (by omega)).mono ?_
          rintro e4 w4 ⟨v4, rfl, hs4, hc4, hk4⟩
          have hc03 := H3.out.alloc (.cells #[.int .i64 0, .int .i64 0, .slice none 0 0] 36)
          have hkr := own_notInt (HD.out.1.keep hc03)
          have hr4 := hc4.rowOf (hc03.row HD.out.2.2.rules (by simp)) hkr
          have hp4 := hc4.rowOf (hc03.row HD.out.2.2.places (by simp)) hkr
          have hfr4 : FreshAt w.heap.size b v4 m := by
            intro j hj
            simp only [own, List.mem_cons, Option.mem_toList] at hj
            rcases hj with rfl | rfl | hj
            · exact HD.out.2.1 _ (by simp [own])
            · exact HD.out.2.1 _ (by simp [own])
            · rcases hk4 j hj with h | h
              · exact HD.out.2.1 j (by simp [own, h])
              · have := hc03.size; have := HD.out.2.2.chg.size; omega
          have hcw4 := (HD.out.2.2.chg.tr hc03).trans hc4 (fun j hj => .inr (HD.out.2.1 j hj))
          have hb : n + 1 ≤ maxLen ∧ (n + 1) * 8 ≤ 140737488355328 := by have := HR.out.1; simp only [maxLen]; omega
          have h1 : ∀ z : Int, ∀ u ∈ [Value.int .i64 z], u.oneCell' = true := by intro z; simp [Value.oneCell']
          have H4 := Lib.hid (And.intro hs4 (And.intro hr4 (And.intro hp4 (And.intro hfr4 (And.intro hcw4 (And.intro hb h1))))))
          have HA := Lib.hid (cells_at (heap_alloc_same w4 (.cells #[.int .i64 r] 3)))
          clear hs4 hc4 hk4 hc03 hkr hr4 hp4 hfr4 hcw4 hb h1
          go_wp2_with (first | (at_builtin; refine wpList_append_row rfl _ _ 22 rfl 3 i0 _ 1 8 Try.underlying22 hi hz0 hz1 hz2 rfl (by decide) (.slice ar n cr) n (ruleCells s) rfl (H4.out.2.1.alloc _) ⟨w4.heap.size, 0, none⟩ 1 1 [.int .i64 r] rfl rfl HA.out (H4.out.2.2.2.2.2.2 r) H4.out.2.2.2.2.2.1.1 H4.out.2.2.2.2.2.1.2 ?_; intro ar' cr' w5 hr5 hg5 hk5; have HB := Lib.hid (cells_at (heap_alloc_same w5 (.cells #[.int .i64 p] 3))); have H5 := Lib.hid (And.intro hr5 (And.intro hg5 (And.intro hk5 (row_beside (n' := n) (H4.out.2.2.1.alloc _) hg5 HD.out.2.2.apart)))); clear hr5 hg5 hk5 HA) | (at_builtin; refine wpList_append_row rfl _ _ 22 rfl 3 i0 _ 1 8 Try.underlying22 hi hz0 hz1 hz2 rfl (by decide) (.slice ap n cp) n (placeCells s) rfl (H5.out.2.2.2.alloc _) ⟨w5.heap.size, 0, none⟩ 1 1 [.int .i64 p] rfl rfl HB.out (H4.out.2.2.2.2.2.2 p) H4.out.2.2.2.2.2.1.1 H4.out.2.2.2.2.2.1.2 ?_; intro ap' cp' w6 hr6 hg6 hk6; have H6 := Lib.hid (And.intro hr6 (And.intro hg6 hk6)); clear hr6 hg6 hk6 HB))
          have hs5 := (H4.out.1.keep ((Chg.refl [] w4).alloc (.cells #[.int .i64 r] 3))).grown (H4.out.2.1.alloc _) H5.out.2.1
          have hs6 := (hs5.keep ((Chg.refl [] w5).alloc (.cells #[.int .i64 p] 3))).grown (H5.out.2.2.2.alloc _) H6.out.2.1
          have HS6 := Lib.hid hs6
          clear hs5 hs6
          refine (grow_eq (s := s ++ [((r, p), none)]) (s' := s ++ [((r, p), some ((k : Int), 0, []))]) (e := k) (l := 0) (t := []) (x := 0) (by simp [St.growErr, growErr, mayGrow]) (by simp [St.grow, growSt, mayGrow]) _ b m v4 _ _ _ HS6.out (tree_nil _) (by simp; omega)).mono ?_
          rintro e7 w7 ⟨rfl, hs7, hc7⟩
          have H7 := Lib.hid (And.intro hs7 hc7)
          clear hs7 hc7
          go_wp2
          go_roundg (len - (k + 1))
          case measure => omega
          case rel =>
            obtain ⟨hs4, hr4, hp4, hfr4, hcw4, hb, h1⟩ := H4.out
            obtain ⟨hr5, hg5, hk5, hp5⟩ := H5.out
            obtain ⟨hr6, hg6, hk6⟩ := H6.out
            obtain ⟨hs7, hc7⟩ := H7.out
            have ha := HD.out.2.2.apart
            have hfr := HD.out.2.2.fr
            have hfp := HD.out.2.2.fp
            have hr6' := row_beside (n' := n) (hr5.alloc (.cells #[.int .i64 p] 3)) hg6 (fun j hj he => by
              rcases hk5 with h | h
              · exact ha j (h.symm.trans he) hj
              · rw [h] at he
                cases he
                have := (hp4.lt _ hj).2
                simp at this
                omega)
            have hkr := own_notInt HS6.out
            have hsz4 := hcw4.size
            have hsz5 := hg5.size
            simp at hsz5
            refine ⟨k + 1, n + 1, cr', cp', ar', ap', s ++ [((r, p), some ((k : Int), 0, []))], rfl, by omega, rfl, rfl, by go_num, by simp [HR.out.1], nestOk_push HR.out.2.1 hr1 hr2 hp1 hp2, ⟨v4, hs7, hfr4⟩, ?_, ?_, ?_, ?_, ?_, ?_⟩
            · have := hc7.rowOf hr6' hkr
              simpa [ruleCells] using this
            · have := hc7.rowOf hr6 hkr
              simpa [placeCells] using this
            · intro j hj he
              have hjlt := (hr5.lt j hj).2
              rcases hk6 with h | h
              · rw [h] at he
                rcases hk5 with h' | h'
                · exact ha j (h'.symm.trans hj) he
                · rw [h'] at hj
                  cases hj
                  have := (hp4.lt _ he).2
                  simp at this
                  omega
              · rw [h] at he
                cases he
                simp at hjlt
                omega
            · intro j hj
              rcases hk5 with h | h
              · exact hfr j (h.symm.trans hj)
              · rw [h] at hj; cases hj; simp; omega
            · intro j hj
              rcases hk6 with h | h
              · exact hfp j (h.symm.trans hj)
              · rw [h] at hj; cases hj; simp; omega
            · exact ((((hcw4.alloc _).grown hg5 (fun j hj => .inr (hfr j hj))).alloc _).grown hg6 (fun j hj => .inr (hfp j hj))).trans hc7 (fun j hj => .inr (hfr4 j hj))
      · obtain rfl : k = len := by omega
        obtain ⟨hn, hok, hne⟩ := HR.out
        have hkeys : (s.map (·.1)).Nodup := by obtain ⟨v, hs, _⟩ := hne.store; exact hs.keys
        have HK := Lib.hid (And.intro hok (And.intro hne hkeys))
        subst hn
        clear hok hne hkeys HR
        go_wp2_with fail
        go_loopg [12] s.length (fun g nv wr => ∃ (j : Nat), g = j ∧ j ≤ s.length ∧ nv = .int .i64 j ∧ Nest2 w b m s j ar ap cr cp wr)
        case atStart =>
          obtain ⟨⟨v, hs, hf⟩, hr, hp, _, _, _, hch⟩ := HK.out.2.1
          exact ⟨s.length, rfl, Nat.le_refl _, rfl, ⟨v, by rw [List.take_length]; exact hs, hf⟩, hr, hp, hch⟩
        case round =>
          obtain ⟨_, rfl, hj, rfl, hn2⟩ := hrel
          obtain ⟨v, hs, hfr⟩ := hn2.store
          have H2n := Lib.hid (And.intro hs (And.intro hfr hn2))
          clear hs hfr hn2
          have hsl : s.length ≤ k := HK.out.1.1
          cases gk with
          | zero =>
            go_wp2_with fail
            refine (Len_any _ b m v _ H2n.out.1).mono ?_
            rintro e1' w2' ⟨rfl, rfl⟩
            rw [show (((s.take 0).length : Nat) : Int) = 0 from rfl]
            go_wp2_with fail
            refine (End_eq (s := s.take 0) (s' := []) (x := 5) rfl rfl _ b m v H2n.out.1 (by simp)).mono ?_
            rintro e5 w5 ⟨v5, rfl, hs5, hc5, hv5⟩
            have H5 := Lib.hid hc5
            clear hs5 hc5 hv5
            go_wp2
            go_ret
            exact ⟨rfl, H2n.out.2.2.chg.trans H5.out (fun j hj => .inr (H2n.out.2.1 j hj))⟩
          | succ i =>
            have hi' : i < s.length := by omega
            obtain ⟨gr, har, hrc, hrn⟩ := ints_cell H2n.out.2.2.rules (i := i) (by simpa [ruleCells] using hi')
            obtain ⟨gp, hap, hpc, hpn⟩ := ints_cell H2n.out.2.2.places (i := i) (by simpa [placeCells] using hi')
            have hrc' : wr.cell? ⟨gr, i, none⟩ = some (.int .i64 s[i].1.1) := by rw [hrc]; simp [ruleCells]
            have hpc' : wr.cell? ⟨gp, i, none⟩ = some (.int .i64 s[i].1.2) := by rw [hpc]; simp [placeCells]
            subst har
            subst hap
            clear hrc hpc
            obtain ⟨hlp1, hlp2⟩ := last_take hi'
            obtain ⟨A, hA⟩ : ∃ A, A = s[i].1.1 := ⟨_, rfl⟩
            obtain ⟨B, hB⟩ : ∃ B, B = s[i].1.2 := ⟨_, rfl⟩
            rw [← hA] at hrc'
            rw [← hB] at hpc'
            have HL := Lib.hid (And.intro hlp1 (And.intro hlp2 (And.intro hA hB)))
            clear hlp1 hlp2 hA hB
            go_wp2_with fail
            refine (Last_any _ b m v _ H2n.out.1 (by simp; omega)).mono ?_
            rintro e1 w1' ⟨rfl, hc1'⟩
            rw [HL.out.1, HL.out.2.1, ← HL.out.2.2.1, ← HL.out.2.2.2]
            have e1 := hc1'.cell hrc' (by simp)
            have e2 := hc1'.cell hpc' (by simp)
            have HL1 := Lib.hid hc1'
            clear hc1' hrc' hpc'
            go_wp2_with fail
            have hs1 := H2n.out.1.keep HL1.out
            refine (Len_any _ b m v _ hs1).mono ?_
            rintro e1' w2' ⟨rfl, rfl⟩
            have hl1 : (((s.take (i + 1)).length : Nat) : Int) = (i : Int) + 1 := by rw [List.length_take, Nat.min_eq_left (by omega)]; rfl
            rw [hl1]
            have HS1 := Lib.hid (And.intro hs1 hl1)
            clear hs1 hl1 e1 e2
            have hi2 : i < 200 := by omega
            go_wp2_with fail
            go_loopg [16, 17] 5 (fun g av pv wq => ∃ (p : Nat), g = 5 - p ∧ p ≤ 5 ∧ av = .int .i64 (manyAt (s.take (i + 1)) p) ∧ pv = .int .i64 p ∧ Chg [] w1' wq)
            case atStart => exact ⟨0, rfl, by omega, rfl, rfl, Chg.refl _ _⟩
            case round =>
              obtain ⟨p, rfl, hp5, rfl, rfl, hcq⟩ := hrel
              obtain ⟨wq, rfl⟩ : ∃ wq : World, wq = wr := ⟨_, rfl⟩
              have HQ := Lib.hid hcq
              clear hcq
              obtain ⟨mp, hmp⟩ : ∃ mp, mp = manyAt (s.take (i + 1)) p := ⟨_, rfl⟩
              have hmp2 : mp ≤ 1000 := by
                have h1 := manyAt_le (s.take (i + 1)) p
                have h2 : (s.take (i + 1)).length ≤ 200 := by rw [List.length_take]; omega
                have h3 : p * (s.take (i + 1)).length ≤ 5 * 200 := Nat.mul_le_mul hp5 h2
                omega
              rw [← hmp]
              have HM := Lib.hid hmp
              clear hmp
              by_cases hp : p < 5
              · go_wp2_with fail
                refine (Live_any _ b m v _ p (HS1.out.1.keep HQ.out) (by simp; omega)).mono ?_
                rintro e3 w3 ⟨a3, c3, rfl, hr3, hf3, hc3⟩
                obtain ⟨zs, hzs⟩ : ∃ zs, zs = sorted (rulesAt (s.take (i + 1)) p) := ⟨_, rfl⟩
                rw [← hzs] at hr3 ⊢
                have hzl : zs.length ≤ 200 := by
                  rw [hzs, sorted_length]
                  have := rulesAt_le (s.take (i + 1)) p
                  rw [List.length_take] at this
                  omega
                have hzp : zs.Pairwise (· < ·) := by rw [hzs]; exact sorted_rises (rulesAt_nodup HS1.out.1.keys p)
                have H3 := Lib.hid (And.intro hr3 (And.intro hc3 (And.intro hzs hzp)))
                clear hr3 hf3 hc3 hzs hzp
                go_wp2_with fail
                go_loopg [19] (zs.length + 1) (fun g kv wk => ∃ (q : Nat), g = zs.length + 1 - q ∧ kv = .int .i64 ((q : Int) + 1) ∧ q ≤ zs.length ∧ Chg [] w3 wk)
                case atStart => exact ⟨0, rfl, rfl, Nat.zero_le _, Chg.refl _ _⟩
                case round =>
                  obtain ⟨q, rfl, rfl, hq, hck⟩ := hrel
                  obtain ⟨wk, rfl⟩ : ∃ wk : World, wk = wr := ⟨_, rfl⟩
                  have HK4 := Lib.hid hck
                  clear hck
                  by_cases hq2 : q + 1 < zs.length
                  · obtain ⟨g4, ha4, hx1, hnc⟩ := ints_cell (HK4.out.row H3.out.1 (by simp)) (i := q) (by simpa using (by omega : q < zs.length))
                    obtain ⟨g5, ha5, hx2, _⟩ := ints_cell (HK4.out.row H3.out.1 (by simp)) (i := q + 1) (by simpa using hq2)
                    subst ha4
                    cases ha5
                    have hlt : zs[q] < zs[q + 1] := List.pairwise_iff_getElem.1 H3.out.2.2.2 q (q + 1) (by omega) hq2 (by omega)
                    obtain ⟨z1, hz1'⟩ : ∃ z1, z1 = zs[q] := ⟨_, rfl⟩
                    obtain ⟨z2, hz2'⟩ : ∃ z2, z2 = zs[q + 1] := ⟨_, rfl⟩
                    rw [← hz1', ← hz2'] at hlt
                    have hx1' : wk.cell? ⟨g4, q, none⟩ = some (.int .i64 z1) := by rw [hx1, hz1']; simp
                    have hx2' : wk.cell? ⟨g4, q + 1, none⟩ = some (.int .i64 z2) := by rw [hx2, hz2']; simp
                    clear hx1 hx2 hz1' hz2'
                    have b1 : (0 : Int) ≤ (q : Int) := by omega
                    have b2 : (q : Int) + 1 < (zs.length : Int) := by omega
                    go_wp2_with fail
                    go_quiet (fail)
                    go_wp2
                    go_roundg (zs.length + 1 - (q + 1))
                    case measure => omega
                    case rel => exact ⟨q + 1, rfl, by go_num, by omega, HK4.out.drewN _⟩
                  · go_wp2
                    go_roundg (5 - (p + 1))
                    case measure => omega
                    case rel => exact ⟨p + 1, rfl, by omega, by rw [manyAt, HM.out, H3.out.2.2.1, sorted_length]; go_num, by go_num, (HQ.out.tr H3.out.2.1).tr HK4.out⟩
              · obtain rfl : p = 5 := by omega
                have hall : ∀ x ∈ s.take (i + 1), 0 ≤ x.1.2 ∧ x.1.2 < 5 := fun x hx => by
                  have := HK.out.1.2.1 x (List.mem_of_mem_take hx)
                  exact ⟨this.2.2.1, this.2.2.2.1⟩
                have hmi : mp = i + 1 := by rw [HM.out, manyAt_five _ hall, List.length_take, Nat.min_eq_left (by omega)]
                subst hmi
                obtain ⟨q0, tl, hs0⟩ : ∃ q tl, s = (q, some (0, 0, [])) :: tl := by
                  rcases HK.out.1.2.2 with ⟨_, h⟩ | h
                  · rw [h] at hi'; simp at hi'
                  · exact h
                have hw0 := HS1.out.1.wf (q0, some (0, 0, [])) (by rw [hs0]; simp)
                have hrd : St.read (s.take (i + 1)) q0 0 = (some (0, 0, []), 3) := by rw [hs0]; exact read_first i
                have hrow0 := (HL1.out.tr HQ.out).row H2n.out.2.2.rules (by simp)
                have hplc0 := (HL1.out.tr HQ.out).row H2n.out.2.2.places (by simp)
                obtain ⟨gr', hg1, hrc, _⟩ := ints_cell hrow0 (i := 0) (by rw [hs0]; simp [ruleCells])
                obtain ⟨gp', hg2, hpc, _⟩ := ints_cell hplc0 (i := 0) (by rw [hs0]; simp [placeCells])
                cases hg1
                cases hg2
                have hr0 : wq.cell? ⟨gr, 0, none⟩ = some (.int .i64 q0.1) := by rw [hrc]; simp [ruleCells, hs0]
                have hp0 : wq.cell? ⟨gp, 0, none⟩ = some (.int .i64 q0.2) := by rw [hpc]; simp [placeCells, hs0]
                have hwA := HS1.out.1.wf s[i] (by rw [List.take_succ_eq_append_getElem hi']; exact List.mem_append.2 (.inr (List.mem_singleton.2 rfl)))
                have hz1 : ¬ s.take (i + 1) = [] := by
                  intro h
                  have h1 : (s.take (i + 1)).length = 0 := by rw [h]; rfl
                  rw [List.length_take] at h1
                  omega
                have hgo := read_gone hi' HK.out.2.2
                have hz3 : St.read (s.take i) (A, B) 9 = (none, 1) := by rw [HL.out.2.2.1, HL.out.2.2.2]; exact hgo
                have hiA : I64 A := by rw [HL.out.2.2.1]; exact hwA.1
                have hiB : I64 B := by rw [HL.out.2.2.2]; exact hwA.2
                have HZ := Lib.hid (And.intro hz1 (And.intro (dropLast_take' hi') (And.intro hz3 (And.intro hiA hiB))))
                have HRd := Lib.hid (And.intro hrd hw0)
                have lq1 := World.block_lt_of_cell? _ _ hr0
                have lq2 := World.block_lt_of_cell? _ _ hp0
                simp only at lq1 lq2
                have ln : (0 : Int) < (s.length : Int) := by omega
                have ln2 : 0 < s.length := by omega
                clear hall hs0 hw0 hrd hrow0 hplc0 hrc hpc hwA hz1 hgo hz3 hiA hiB HM
                go_wp2_with fail
                go_region_held3 (fun w' => w'.cell? ⟨gr, 0, none⟩ = some (.int .i64 q0.1) ∧ w'.cell? ⟨gp, 0, none⟩ = some (.int .i64 q0.2)) (first | go_keep | exact ⟨k1, k2⟩ | exact ⟨((((Chg.refl [wq.heap.size] w3).setCell (.inl (by simp)) _).setCell (.inl (by simp)) _).setCell (.inl (by simp)) _).cell k1 (by simp; omega), ((((Chg.refl [wq.heap.size] w3).setCell (.inl (by simp)) _).setCell (.inl (by simp)) _).setCell (.inl (by simp)) _).cell k2 (by simp; omega)⟩)
                  ((go_at_call 12; refine (Read_eq (q := q0) HRd.out.1 _ b m v ?_ HRd.out.2.1 HRd.out.2.2).mono ?_; (first | exact HS1.out.1.keep HQ.out.drew | exact HS1.out.1.keep (HQ.out.alloc _).drew); rintro e3 w3 ⟨v3, rfl, ⟨a3, c3, rfl, ht3⟩, hc3⟩; (first | (have hc3' : Chg [] wq.drew w3 := (by with_reducible exact hc3); have k1 := hc3'.cell (p := ⟨gr, 0, none⟩) hr0 List.not_mem_nil; have k2 := hc3'.cell (p := ⟨gp, 0, none⟩) hp0 List.not_mem_nil; clear hc3') | (have hc3' : Chg [] (wq.alloc (.cells #[.int .i64 0, .int .i64 0, .slice none 0 0] 36)).drew w3 := (by with_reducible exact hc3); have k1 := hc3'.cell (p := ⟨gr, 0, none⟩) (((Chg.refl [] wq).alloc _).cell hr0 List.not_mem_nil) List.not_mem_nil; have k2 := hc3'.cell (p := ⟨gp, 0, none⟩) (((Chg.refl [] wq).alloc _).cell hp0 List.not_mem_nil) List.not_mem_nil; have zb := hc3'.heap (k := wq.heap.size) (heap_alloc_same wq _) List.not_mem_nil; have z0 := (cell_of_cells zb 0).trans (show _ = some (Value.int .i64 0) from rfl); have z1 := (cell_of_cells zb 1).trans (show _ = some (Value.int .i64 0) from rfl); have z2 := (cell_of_cells zb 2).trans (show _ = some (Value.slice none 0 0) from rfl); have zf := free_of_cells zb; have HZB := Lib.hid zb; clear zb hc3')); have l1 := World.block_lt_of_cell? _ _ k1; have l2 := World.block_lt_of_cell? _ _ k2; simp only at l1 l2; have H3A := Lib.hid hc3; clear hc3 ht3))
                · go_wp2_with fail
                  have hF1 : Chg [] wq (w3.alloc (.cells #[.int .i64 0, .int .i64 0, .slice a3 0 c3] 36)) := (((Chg.refl [] wq).drew).tr H3A.out).alloc _
                  have hF2 := heap_alloc_same w3 (.cells #[.int .i64 0, .int .i64 0, .slice a3 0 c3] 36)
                  obtain ⟨Bx, hBx⟩ : ∃ Bx, Bx = w3.heap.size := ⟨_, rfl⟩
                  rw [← hBx] at hF2 ⊢
                  obtain ⟨wf, hwf⟩ : ∃ wf, wf = w3.alloc (.cells #[.int .i64 0, .int .i64 0, .slice a3 0 c3] 36) := ⟨_, rfl⟩
                  rw [← hwf] at hF1 hF2 ⊢
                  have HF := Lib.hid (And.intro hF1 hF2)
                  clear hF1 hF2 hwf hBx k1 k2 l1 l2 hr0 hp0
                  go_wp2_with fail
                  refine (End_eq (s := s.take (i + 1)) (s' := s.take i) (x := 0) (if_neg HZ.out.1) HZ.out.2.1 wf b m v (HS1.out.1.keep (HQ.out.tr HF.out.1)) (by simp; omega)).mono ?_
                  rintro e5 w5 ⟨v5, rfl, hs5, hc5, hv5⟩
                  have hbx := hc5.heap HF.out.2 (own_notBox (HS1.out.1.keep (HQ.out.tr HF.out.1)) HF.out.2)
                  have x0 := (cell_of_cells hbx 0).trans (show _ = some (Value.int .i64 0) from rfl)
                  have H5 := Lib.hid (And.intro hs5 (And.intro hc5 hv5))
                  clear hs5 hc5 hv5 hbx
                  go_wp2_with fail
                  refine (Read_eq (q := (A, B)) (x := none) (y := 1) HZ.out.2.2.1 w5 b m v5 H5.out.1 HZ.out.2.2.2.1 HZ.out.2.2.2.2).mono ?_
                  rintro e6 w6 ⟨v6, rfl, hv6, hc6⟩
                  obtain rfl := seed_none hv6
                  have H6 := Lib.hid hc6
                  clear hv6 hc6 x0
                  go_wp2
                  go_roundg i
                  case measure => omega
                  case rel =>
                    obtain ⟨hs5, hc5, hv5⟩ := H5.out
                    obtain ⟨hs0, hf0, hn0⟩ := H2n.out
                    have hc1 : Chg [] wr wf := (HL1.out.tr HQ.out).tr HF.out.1
                    have hkr := own_notInt (hs0.keep hc1)
                    have hc7 : Chg [] w5 (w6.alloc (.cells #[.int .i64 0, .int .i64 0, .slice none 0 0] 36)) := H6.out.alloc _
                    refine ⟨i, rfl, by omega, by go_num, ⟨v5, hs5.keep hc7, fun j hj => hf0 j (by simp only [own, List.mem_cons, Option.mem_toList] at hj ⊢; rw [hv5] at hj; exact hj)⟩, ?_, ?_, ?_⟩
                    · exact hc7.row (hc5.rowOf (hc1.row hn0.rules (by simp)) hkr) (by simp)
                    · exact hc7.row (hc5.rowOf (hc1.row hn0.places (by simp)) hkr) (by simp)
                    · exact ((hn0.chg.tr hc1).trans hc5 (fun j hj => .inr (hf0 j hj))).tr hc7
                · go_wp2_with fail
                  have hF1 : Chg [] wq (((w3.setCell ⟨wq.heap.size, 0, none⟩ (.int .i64 0)).setCell ⟨wq.heap.size, 1, none⟩ (.int .i64 0)).setCell ⟨wq.heap.size, 2, none⟩ (.slice a3 0 c3)) := ((((((Chg.refl [] wq).alloc _).drew).tr H3A.out).setCell (.inr (Nat.le_refl _)) _).setCell (.inr (Nat.le_refl _)) _).setCell (.inr (Nat.le_refl _)) _
                  have hF2 := heap_setCell_same (heap_setCell_same (heap_setCell_same HZB.out 0 (.int .i64 0)) 1 (.int .i64 0)) 2 (.slice a3 0 c3)
                  obtain ⟨Bx, hBx⟩ : ∃ Bx, Bx = wq.heap.size := ⟨_, rfl⟩
                  obtain ⟨wf, hwf⟩ : ∃ wf, wf = ((w3.setCell ⟨wq.heap.size, 0, none⟩ (.int .i64 0)).setCell ⟨wq.heap.size, 1, none⟩ (.int .i64 0)).setCell ⟨wq.heap.size, 2, none⟩ (.slice a3 0 c3) := ⟨_, rfl⟩
                  rw [← hwf] at hF1 hF2 ⊢
                  rw [← hBx] at hF2 ⊢
                  have hF3 : wf.heap[Bx]? = some (.cells #[.int .i64 0, .int .i64 0, .slice a3 0 c3] 36 (0, 0)) := by simpa using hF2
                  have HF := Lib.hid (And.intro hF1 hF3)
                  clear hF1 hF2 hF3 hwf hBx k1 k2 l1 l2 hr0 hp0 z0 z1 z2 zf
                  go_wp2_with fail
                  refine (End_eq (s := s.take (i + 1)) (s' := s.take i) (x := 0) (if_neg HZ.out.1) HZ.out.2.1 wf b m v (HS1.out.1.keep (HQ.out.tr HF.out.1)) (by simp; omega)).mono ?_
                  rintro e5 w5 ⟨v5, rfl, hs5, hc5, hv5⟩
                  have hbx := hc5.heap HF.out.2 (own_notBox (HS1.out.1.keep (HQ.out.tr HF.out.1)) HF.out.2)
                  have x0 := (cell_of_cells hbx 0).trans (show _ = some (Value.int .i64 0) from rfl)
                  have H5 := Lib.hid (And.intro hs5 (And.intro hc5 hv5))
                  clear hs5 hc5 hv5 hbx
                  go_wp2_with fail
                  refine (Read_eq (q := (A, B)) (x := none) (y := 1) HZ.out.2.2.1 w5 b m v5 H5.out.1 HZ.out.2.2.2.1 HZ.out.2.2.2.2).mono ?_
                  rintro e6 w6 ⟨v6, rfl, hv6, hc6⟩
                  obtain rfl := seed_none hv6
                  have H6 := Lib.hid hc6
                  clear hv6 hc6 x0
                  go_wp2
                  go_roundg i
                  case measure => omega
                  case rel =>
                    obtain ⟨hs5, hc5, hv5⟩ := H5.out
                    obtain ⟨hs0, hf0, hn0⟩ := H2n.out
                    have hc1 : Chg [] wr wf := (HL1.out.tr HQ.out).tr HF.out.1
                    have hkr := own_notInt (hs0.keep hc1)
                    have hc7 : Chg [] w5 (w6.alloc (.cells #[.int .i64 0, .int .i64 0, .slice none 0 0] 36)) := H6.out.alloc _
                    refine ⟨i, rfl, by omega, by go_num, ⟨v5, hs5.keep hc7, fun j hj => hf0 j (by simp only [own, List.mem_cons, Option.mem_toList] at hj ⊢; rw [hv5] at hj; exact hj)⟩, ?_, ?_, ?_⟩
                    · exact hc7.row (hc5.rowOf (hc1.row hn0.rules (by simp)) hkr) (by simp)
                    · exact hc7.row (hc5.rowOf (hc1.row hn0.places (by simp)) hkr) (by simp)
                    · exact ((hn0.chg.tr hc1).trans hc5 (fun j hj => .inr (hf0 j hj))).tr hc7
end Go.Proofs.Ytffjfkjlahdedaa

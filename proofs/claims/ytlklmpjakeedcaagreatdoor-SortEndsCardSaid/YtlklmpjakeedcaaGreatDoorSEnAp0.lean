/-
 Rows that are made with room, and rows to which another is put, the same or a new one: what lay where.
 Conditions: none.
-/
import Derived.Test.YtlklmpjakeedcaaGreatDoorSEnGFresh
import Derived.Maps.AppendAt
import Derived.Laws.MakeOwn
import Derived.Test.YtlklmpjakeedcaaGreatDoorSEnGAny2
set_option linter.unusedVariables false
set_option linter.unusedSimpArgs false
namespace Go.Proofs.YtlklmpjakeedcaaGreatDoor
open Go.RowKit Go.MapKept

/-- A row without elements, with room. -/
theorem made_row {P : Program} {t e : TypeId} {i : TypeInfo} {z : Value} {size : Nat} (ht : P.underlying t = some (.slice e)) (hi : P.info? e = some i) (hz : i.zero = some z) (hsize : i.size = size) {m : Nat} (hb : i.bytes * m ≤ 281474976710656) (h63 : m ≤ maxLen) :
  ∃ ob, (∀ W : World, (Instr.makeSlice t (.int .i64 0) (.int .i64 (m : Int))).run P W = .ok (.slice (some ⟨W.heap.size, 0, none⟩) 0 m) (W.alloc ob)) ∧ ∀ (W : World) (base : Nat), base ≤ W.heap.size → (W.alloc ob).ownsRow base e size (.slice (some ⟨W.heap.size, 0, none⟩) 0 m) 0 [] := by
 subst hsize
 have h63' : (m : Int) ≤ 9223372036854775807 := by simp only [maxLen] at h63; omega
 have hb' : (i.bytes : Int) * (m : Int) ≤ 281474976710656 := by
  have h : ((i.bytes * m : Nat) : Int) ≤ 281474976710656 := by omega
  rwa [Int.natCast_mul] at h
 refine ⟨.cells (madeCells z.cells (m * i.size)) e, fun W => ?_, fun W base hbase => World.ownsRow_made W _ m hbase h63 (size_madeCells _ _)⟩
 have hr := run_make (P := P) W t e i z ht hi hz .i64 .i64 0 m (Int.le_refl _) (by omega) hb' h63'
 simp only [Int.toNat_zero, Int.toNat_natCast] at hr
 exact hr

/-- 'append(s, x...)': the row's own block grows, or there is a new one and all is as it was. -/
theorem run_append_two {P : Program} (w : World) (base : Nat) (t ty e : TypeId) (i : TypeInfo) (z : Value) (size bytes : Nat) (ht : P.underlying t = some (.slice e)) (hi : P.info? e = some i) (hz : i.zero = some z)
  (hsize : i.size = size) (hby : i.bytes = bytes) (hzs : z.cells.size = size) (hsz : 0 < size) (v : Value) (n : Nat) (xs : List Value) (hown : w.ownsRow base e size v n xs)
  (a : Addr) (m c : Nat) (news : List Value) (hl : news.length = m * size) (hnews : ∀ j u, news[j]? = some u → w.cell? (a.add j) = some u) (h1 : ∀ u ∈ news, u.oneCell' = true)
  (h63 : n + m ≤ maxLen) (hbytes : (n + m) * bytes ≤ 140737488355328) (hbase : base ≤ w.heap.size) :
  ∃ v' w', (Builtin.append_ #[t, t] ty #[v, .slice (some a) m c]).run P w = .ok v' w' ∧ w'.ownsRow base e size v' (n + m) (xs ++ news) ∧ w.grownBy w' v.ownBlock ∧
   ((∃ g cap, v = .slice (some ⟨g, 0, none⟩) n cap ∧ v' = .slice (some ⟨g, 0, none⟩) (n + m) cap) ∨ Chg [] w w' ∧ (v'.ownBlock = none ∨ v'.ownBlock = some w.heap.size)) := by
 obtain ⟨v', w', hr, ho, hg, hn, hb⟩ := run_append_own_at (P := P) w base t ty e i z size bytes ht hi hz hsize hby hzs hsz v n xs hown a m c news hl hnews h1 h63 hbytes hbase
 refine ⟨v', w', hr, ho, hg, ?_⟩
 subst hsize
 subst hby
 have hsmall : n + m ≤ 9223372036854775807 := by simp only [maxLen] at h63; omega
 rcases hown.2 with ⟨rfl, rfl⟩ | ⟨g, cap, cur, rfl, hbg, hgg, hnc, hcm, hcs, htake⟩
 ·exact .inr ⟨⟨hg.os, hg.tape, hg.output, hg.size, fun k hk _ => hg.block k hk (by simp [Value.ownBlock])⟩, hb⟩
 ·by_cases hroom : n + m ≤ cap
  ·have hfit : n * i.size + news.length ≤ cur.size := by rw [hl, hcs, ← Nat.add_mul]; exact Nat.mul_le_mul_right _ hroom
   have hr' := run_append_room (P := P) w t ty e i ht hi g n cap cur hgg a m c news hl hnews h1 hroom hfit
   rw [hr'] at hr
   cases hr
   exact .inl ⟨g, cap, rfl, rfl⟩
  ·have holds : ∀ j u, xs[j]? = some u → w.cell? ((⟨g, 0, none⟩ : Addr).add j) = some u := hown.cells (g := g) rfl
   have hr' := run_append_grow (P := P) w t ty e i z ht hi hz ⟨g, 0, none⟩ n cap xs hown.1 holds a m c news hl hnews (by omega) (by omega) (growslice_fits (by omega) hbytes)
   rw [hr'] at hr
   cases hr
   exact .inr ⟨((Chg.refl [] w).drew).alloc _, .inr rfl⟩
theorem wpList_append_two {P : Program} {w : World} {ops : Array Oper} {rest : List Oper} {o : Oper} {a : Act} {Q : Exit → Act → World → Prop} (hgd : o.guard = none) (s x : Operand) (t : TypeId)
  (ho : o.op = .call { callee := .builtin .append, args := #[s, x], argTypes := #[t, t] })
  (base : Nat) (e : TypeId) (i : TypeInfo) (z : Value) (size bytes : Nat) (ht : P.underlying t = some (.slice e)) (hi : P.info? e = some i) (hz : i.zero = some z)
  (hsize : i.size = size) (hby : i.bytes = bytes) (hzs : z.cells.size = size) (hsz : 0 < size)
  (v : Value) (n : Nat) (xs : List Value) (hs : a.eval s = v) (hown : w.ownsRow base e size v n xs)
  (ad : Option Addr) (m c : Nat) (news : List Value) (hx : a.eval x = .slice ad m c) (hl : news.length = m * size) (hnone : ad = none → m = 0) (hnews : ∀ b, ad = some b → ∀ j u, news[j]? = some u → w.cell? (b.add j) = some u) (h1 : ∀ u ∈ news, u.oneCell' = true)
  (h63 : n + m ≤ maxLen) (hbytes : (n + m) * bytes ≤ 140737488355328) (hbase : base ≤ w.heap.size)
  (h : ∀ v' w', w'.ownsRow base e size v' (n + m) (xs ++ news) → w.grownBy w' v.ownBlock → ((∃ g cap, v = .slice (some ⟨g, 0, none⟩) n cap ∧ v' = .slice (some ⟨g, 0, none⟩) (n + m) cap) ∨ Chg [] w w' ∧ (v' = v ∨ v'.ownBlock = none ∨ v'.ownBlock = some w.heap.size)) → wpList P ops Q rest (a.put o.dst v') w') :
  wpList P ops Q (o :: rest) a w := by
 cases ad with
 | none =>
  obtain rfl := hnone rfl
  obtain rfl : news = [] := List.eq_nil_of_length_eq_zero (by simpa using hl)
  refine wpList_append_nil hgd s x t ho base e i size c ht hi v n xs hs hown hx (h v w (by simpa using hown) ⟨rfl, rfl, rfl, Nat.le_refl _, fun _ _ _ => rfl⟩ (.inr ⟨Chg.refl _ _, .inl rfl⟩))
 | some ad =>
  refine wpList_plain hgd fun K hK => ?_
  obtain ⟨v', w', hr, h2, h3, h4⟩ := run_append_two (P := P) w base t o.type e i z size bytes ht hi hz hsize hby hzs hsz v n xs hown ad m c news hl (hnews ad rfl) h1 h63 hbytes hbase
  unfold Oper.wp execOp
  simp only [ho, resolve, invoke, builtin, Sem.run_bind, Sem.run_pure, Result.andThen_ok, List.map_toArray, List.map_cons, List.map_nil, hs, hx, hr]
  exact hK _ _ (h v' w' h2 h3 (h4.imp id fun h5 => ⟨h5.1, .inr h5.2⟩))
/-- A cell of a row of one's own is written. -/
theorem row_put {w : World} {B e size n c g : Nat} {xs : List Value} (h : w.ownsRow B e size (.slice (some ⟨g, 0, none⟩) n c) n xs) {i : Nat} (hi : i < n * size) :
  w.cell? ⟨g, i, none⟩ = xs[i]? ∧ w.frozen? ⟨g, i, none⟩ = false ∧ B ≤ g ∧ (∃ cur, w.heap[g]? = some (.cells cur e (0, 0))) ∧
   ∀ u, (w.setCell ⟨g, i, none⟩ u).ownsRow B e size (.slice (some ⟨g, 0, none⟩) n c) n (xs.set i u) ∧ Chg [g] w (w.setCell ⟨g, i, none⟩ u) := by
 have hl := h.1
 rcases h.2 with ⟨h0, h1⟩ | ⟨g, cap, cur, h0, hb, hg, hn, hcm, hcs, ht⟩
 ·cases h0
 cases h0
 refine ⟨?_, free_of_cells hg _, hb, ⟨cur, hg⟩, fun u => ⟨⟨by rw [List.length_set]; exact hl, .inr ⟨g, c, _, rfl, hb, heap_setCell_same hg _ _, hn, hcm, by simpa using hcs, ?_⟩⟩, (Chg.refl [g] w).setCell (p := ⟨g, i, none⟩) (.inl (by simp)) _⟩⟩
 ·rw [cell_of_cells hg, ← ht, List.getElem?_take, if_pos hi]
  simp
 ·rw [Array.toList_setIfInBounds, List.take_set, ht]
/-- A row's first elements. -/
theorem row_take {w : World} {B e size n c : Nat} {b : Option Addr} {xs : List Value} (h : w.ownsRow B e size (.slice b n c) n xs) {m : Nat} (hm : m ≤ n) (hbn : b ≠ none) :
  w.ownsRow B e size (.slice b m c) m (xs.take (m * size)) := by
 have hl := h.1
 rcases h.2 with ⟨h0, h1⟩ | ⟨g, cap, cur, h0, hbg, hg, hn, hcm, hcs, ht⟩
 ·cases h0
  exact absurd rfl hbn
 cases h0
 have hms : m * size ≤ n * size := Nat.mul_le_mul_right _ hm
 refine ⟨by rw [List.length_take, hl]; omega, .inr ⟨g, c, cur, rfl, hbg, hg, by omega, hcm, hcs, ?_⟩⟩
 rw [← ht, List.take_take, Nat.min_eq_left hms]
end Go.Proofs.YtlklmpjakeedcaaGreatDoor
set_option linter.unusedVariables false
set_option linter.unusedSimpArgs false
set_option linter.unnecessarySimpa false
namespace Go.Proofs.YtlklmpjakeedcaaGreatDoor
open Go.RowKit Go.MapKept Go.Shelf

def markZ (k i : Int) : Int := 1000003 * (k + 7) + i
def marksI (m : Nat) : List Int := (List.range m).map fun (i : Nat) => markZ 1 i
theorem marksI_succ (m : Nat) : marksI (m + 1) = marksI m ++ [markZ 1 m] := by simp [marksI, List.range_succ]
theorem marksI_len (m : Nat) : (marksI m).length = m := by simp [marksI]

set_option maxRecDepth 100000 in
set_option maxHeartbeats 1000000 in
theorem mark_any (w : World) (k i : Int) (h1 : 0 ≤ k) (h2 : k ≤ 1000000) (h3 : 0 ≤ i) (h4 : i ≤ 1099511627776) :
  Calls Tryz.prog 158 #[.int .i64 k, .int .i64 i] w fun e w' => e = .returned (.int .i64 (markZ k i)) ∧ Chg [] w w' := by
 go_enter Tryz.func158, Tryz.ntmps158
 go_wp2_with fail
 go_ret
 refine ⟨ret_int ?_, Chg.refl _ _⟩
 unfold markZ
 go_num

/-- Numbers, with marks behind their end. -/
def LentI (w : World) (zs : List Int) (e : Ending) (w' : World) : Prop :=
 ∃ b c, e = .returned (.slice (some ⟨b, 0, none⟩) zs.length c) ∧ w'.ownsRow w.heap.size 3 1 (.slice (some ⟨b, 0, none⟩) (zs.length + 12) c) (zs.length + 12) ((zs ++ marksI 12).map (Value.int .i64)) ∧ Chg [] w w'

set_option maxRecDepth 100000 in
set_option maxHeartbeats 4000000 in
theorem LentInts_any (w : World) (a : Option Addr) (n c : Nat) (zs : List Int) (hn : n = zs.length) (hs : n ≤ 1099511627776) (hz : Ints w a zs) :
  Calls Tryz.prog 159 #[.slice a n c] w (LentI w zs) := by
 obtain ⟨i0, hi, hz0, hz1, hz2⟩ := info_parts Tryz.infoInt
 obtain ⟨ob, hmk, hob⟩ := made_row (P := Tryz.prog) (t := 34) Tryz.underlying34 hi hz0 hz1 (m := n + 12) (by rw [hz2]; omega) (by simp only [maxLen]; omega)
 rw [show ((n + 12 : Nat) : Int) = (n : Int) + 12 by omega] at hmk
 have hnone : a = none → n = 0 := fun h => by subst h; rw [hn, ints_none hz]; rfl
 have hsome : ∀ b, a = some b → ∀ j u, (zs.map (Value.int .i64))[j]? = some u → (w.alloc ob).cell? (b.add j) = some u := fun b h j u hu => by
  subst h; exact (((Chg.refl [] w).alloc ob).kp).2 _ _ (ints_some hz j u hu)
 have h1 : ∀ (l : List Int), ∀ u ∈ l.map (Value.int .i64), u.oneCell' = true := fun l u hu => by
  obtain ⟨z, _, rfl⟩ := List.mem_map.1 hu
  rfl
 have HH := Lib.hid (And.intro hn (And.intro (hob w w.heap.size (Nat.le_refl _)) (And.intro hnone (And.intro hsome (And.intro (h1 zs) (show (0 + n ≤ maxLen ∧ (0 + n) * 8 ≤ 140737488355328) by simp only [maxLen]; omega))))))
 have HO := Lib.hid h1
 have hl : (zs.map (Value.int .i64)).length = n * 1 := by simp [hn]
 have HL := Lib.hid hl
 clear hn hz hob hnone hsome h1 hl
 go_enter Tryz.func159, Tryz.ntmps159
 go_wp2_with (at_builtin; refine wpList_append_two rfl _ _ 34 rfl w.heap.size 3 i0 _ 1 8 Tryz.underlying34 hi hz0 hz1 hz2 rfl (by decide) (.slice (some ⟨w.heap.size, 0, none⟩) 0 (n + 12)) 0 [] rfl HH.out.2.1 a n c (zs.map (Value.int .i64)) rfl HL.out HH.out.2.2.1 HH.out.2.2.2.1 HH.out.2.2.2.2.1 HH.out.2.2.2.2.2.1 HH.out.2.2.2.2.2.2 (by simp) ?_; intro v' w1 hown hgrow hblk; obtain ⟨a', c', rfl⟩ := ownsRow_slice hown; have HW := Lib.hid (And.intro hown hgrow); clear hown hgrow hblk)
 go_loopg [3, 4] 12 (fun dd lv iv wr => ∃ (i : Nat) (b : Option Addr) (d : Nat), dd = 12 - i ∧ i ≤ 12 ∧ lv = .slice b (n + i) d ∧ iv = .int .i64 i ∧ Hid (wr.ownsRow w.heap.size 3 1 (.slice b (n + i) d) (n + i) ((zs ++ marksI i).map (Value.int .i64)) ∧ Chg [] w wr))
 case atStart =>
  refine ⟨0, a', c', rfl, Nat.zero_le _, ?_, rfl, Lib.hid ⟨?_, ?_⟩⟩
  ·simp
  ·have := HW.out.1
   simpa [marksI] using this
  ·exact ((Chg.refl [] w).alloc ob).grown HW.out.2 (fun k hk => .inr (by simp [Value.ownBlock] at hk; omega))
 case round =>
  obtain ⟨i, b, d, rfl, hi12, rfl, rfl, hin⟩ := hrel
  obtain ⟨wq, rfl⟩ : ∃ wq, wq = wr := ⟨_, rfl⟩
  by_cases hlt : i < 12
  ·go_wp2_with fail
   refine (mark_any wq 1 i (by omega) (by omega) (by omega) (by omega)).mono ?_
   rintro e w2 ⟨rfl, hc2⟩
   obtain ⟨mz, hmz⟩ : ∃ mz, mz = markZ 1 i := ⟨_, rfl⟩
   rw [← hmz]
   have hca := hc2.alloc (.cells #[.int .i64 mz] 3)
   have hrow := hca.row hin.out.1 (fun _ _ => by simp)
   have hnew := cells_at (w := w2.alloc (.cells #[.int .i64 mz] 3)) (heap_alloc_same _ _)
   have h2 : n + i + 1 ≤ maxLen ∧ (n + i + 1) * 8 ≤ 140737488355328 := by simp only [maxLen]; omega
   have hch := hin.out.2.tr hca
   have HA := Lib.hid (And.intro hrow (And.intro hnew (And.intro h2 (And.intro hch hmz))))
   have hbs := hch.size
   clear hrow hnew h2 hch hca hc2 hmz
   go_wp2_with (at_builtin; refine wpList_append_own_at _ rfl _ _ 34 rfl w.heap.size 3 i0 _ 1 8 Tryz.underlying34 hi hz0 hz1 hz2 rfl (by decide) (.slice b (n + i) d) (n + i) _ rfl HA.out.1 ⟨w2.heap.size, 0, none⟩ 1 1 [.int .i64 mz] rfl rfl HA.out.2.1 (HO.out [mz]) HA.out.2.2.1.1 HA.out.2.2.1.2 hbs ?_; intro v' w5 hr5 hg5 hn5 hb5; obtain ⟨a5, c5, rfl⟩ := ownsRow_slice hr5; have HX := Lib.hid (And.intro hr5 hg5); clear hr5 hg5 hn5 hb5)
   go_roundg (12 - (i + 1))
   case measure => omega
   case rel =>
    refine ⟨i + 1, a5, c5, rfl, by omega, rfl, by go_num, Lib.hid ⟨?_, HA.out.2.2.2.1.grown HX.out.2 (fun j hj => .inr (row_beyond HA.out.1 hj).1)⟩⟩
    have := HX.out.1
    rw [HA.out.2.2.2.2, show [Value.int .i64 (markZ 1 i)] = [markZ 1 i].map (Value.int .i64) from rfl, ← List.map_append, List.append_assoc, ← marksI_succ] at this
    exact this
  ·obtain rfl : i = 12 := by omega
   obtain ⟨G, rfl, hd⟩ : ∃ G, b = some ⟨G, 0, none⟩ ∧ n + 12 ≤ d := by
    rcases hin.out.1.2 with ⟨h0, h1⟩ | ⟨g, cap, cur, h0, _, _, hn, _⟩
    ·omega
    ·cases h0; exact ⟨g, rfl, hn⟩
   have hdm : d ≤ 9223372036854775807 := by
    rcases hin.out.1.2 with ⟨h0, h1⟩ | ⟨g, cap, cur, h0, _, _, _, hc, _⟩
    ·omega
    ·cases h0; simp only [maxLen] at hc; exact hc
   go_wp2_with fail
   go_ret
   obtain ⟨h1, h2⟩ := hin.out
   have hn := HH.out.1
   subst hn
   exact ⟨G, d, rfl, h1, h2⟩
end Go.Proofs.YtlklmpjakeedcaaGreatDoor
set_option linter.unusedVariables false
set_option linter.unusedSimpArgs false
set_option linter.unnecessarySimpa false
namespace Go.Proofs.YtlklmpjakeedcaaGreatDoor
open Go.RowKit Go.MapKept Go.Shelf

set_option maxRecDepth 100000 in
set_option maxHeartbeats 4000000 in
theorem KeptInts_any (w : World) (b o : Nat) (n c : Nat) (a : Option Addr) (n2 c2 : Nat) (zs : List Int) (hn : n = zs.length) (hn2 : n2 = zs.length) (hs : n ≤ 1099511627776) (hc : n + 12 ≤ c) (hcm : c ≤ maxLen) (hz : Ints w (some ⟨b, o, none⟩) (zs ++ marksI 12)) (hl : Ints w a zs) :
  Calls Tryz.prog 165 #[.slice (some ⟨b, o, none⟩) n c, .slice a n2 c2] w fun e w' => e = .returned (.bool true) ∧ Chg [] w w' := by
 obtain rfl : n2 = n := by omega
 have hcm' : c ≤ 9223372036854775807 := by simp only [maxLen] at hcm; exact hcm
 have H := Lib.hid (And.intro hn (And.intro hz hl))
 clear hn hn2 hz hl hcm
 go_enter Tryz.func165, Tryz.ntmps165
 go_wp2_with fail
 go_loopg [6] (n2 + 12) (fun dd iv wr => ∃ i : Nat, dd = n2 + 12 - i ∧ i ≤ n2 + 12 ∧ iv = .int .i64 i ∧ Hid (Chg [] w wr))
 case atStart => exact ⟨0, rfl, Nat.zero_le _, rfl, Lib.hid (Chg.refl _ _)⟩
 case round =>
  obtain ⟨i, rfl, hi, rfl, hin⟩ := hrel
  obtain ⟨wq, rfl⟩ : ∃ wq, wq = wr := ⟨_, rfl⟩
  by_cases hlt : i < n2 + 12
  ·have hil : i < (zs ++ marksI 12).length := by rw [List.length_append, marksI_len, ← H.out.1]; exact hlt
   obtain ⟨b', o', hb', hx⟩ := (H.out.2.1.keep hin.out.kp) i hil
   obtain ⟨rfl, rfl⟩ : b = b' ∧ o = o' := by cases hb'; exact ⟨rfl, rfl⟩
   by_cases hiz : i < n2
   ·have hzl : i < zs.length := by rw [← H.out.1]; exact hiz
    obtain ⟨b2, o2, rfl, hy⟩ := (H.out.2.2.keep hin.out.kp) i hzl
    rw [List.getElem_append_left hzl] at hx
    obtain ⟨z, hzv⟩ : ∃ z, z = zs[i] := ⟨_, rfl⟩
    rw [← hzv] at hx hy
    have kx := cell_rg hx
    have ky := cell_rg hy
    have hd1 : decide ((i : Int) < n2) = true := decide_eq_true (by omega)
    have hd2 : decide (n2 ≤ i) = false := decide_eq_false (by omega)
    clear hx hy hzv hil hzl hb'
    go_wp2_with fail
    refine wp_region_quiet_below (by kernel_rfl) (by kernel_rfl) ?_
    repeat (go_big_quiet_step (fail))
    refine wpQuiet_nil ?_
    intro w7 hw7
    have HW := Lib.hid (hin.out.tr (chg_of_rg hw7))
    clear hw7 kx ky hd1 hd2
    go_wp2_with fail
    go_roundg (n2 + 12 - (i + 1))
    case measure => omega
    case rel => exact ⟨i + 1, rfl, by omega, by go_num, HW⟩
   ·have hx2 : (zs ++ marksI 12)[i] = markZ 1 ((i : Int) - n2) := by
     have hzl : zs.length ≤ i := by rw [← H.out.1]; omega
     rw [List.getElem_append_right hzl]
     have hk : i - zs.length < 12 := by rw [← H.out.1]; omega
     simp only [marksI, List.getElem_map, List.getElem_range]
     congr 1
     have := H.out.1
     omega
    rw [hx2] at hx
    have cA := calls_rg (w := wq) (fun w1 h1 => mark_any w1 1 ((i : Int) - n2) (by omega) (by omega) (by omega) (by omega))
    obtain ⟨z, hzv⟩ : ∃ z, z = markZ 1 ((i : Int) - n2) := ⟨_, rfl⟩
    rw [← hzv] at hx cA
    have kx := cell_rg hx
    have hd1 : decide ((i : Int) < n2) = false := decide_eq_false (by omega)
    have hd2 : decide (n2 ≤ i) = true := decide_eq_true (by omega)
    have hw1 : IntKind.i64.wrap ((i : Int) - n2) = (i : Int) - n2 := IntWalk.i64_in _ (by omega)
    clear hx hzv hil hb' hx2
    go_wp2_with fail
    refine wp_region_quiet_below (by kernel_rfl) (by kernel_rfl) ?_
    repeat (go_big_quiet_step (with_reducible exact cA _ _))
    refine wpQuiet_nil ?_
    intro w7 hw7
    have HW := Lib.hid (hin.out.tr (chg_of_rg hw7))
    clear hw7 kx hd1 hd2 cA hw1
    go_wp2_with fail
    go_roundg (n2 + 12 - (i + 1))
    case measure => omega
    case rel => exact ⟨i + 1, rfl, by omega, by go_num, HW⟩
  ·obtain rfl : i = n2 + 12 := by omega
   go_wp2_with fail
   go_ret
   exact ⟨rfl, hin.out⟩
end Go.Proofs.YtlklmpjakeedcaaGreatDoor
set_option linter.unusedVariables false
set_option linter.unusedSimpArgs false
set_option linter.unnecessarySimpa false
namespace Go.Proofs.YtlklmpjakeedcaaGreatDoor
open Go.RowKit Go.MapKept Go.Shelf

/-- A slice. -/
structure IR where
 a : Option Addr
 n : Nat
 c : Nat
def IR.v (r : IR) : Value := .slice r.a r.n r.c
def IR.blk (r : IR) : Option Nat := r.v.ownBlock
/-- A row of one's own, its first m numbers the marks of k. -/
def RowK (w : World) (r : IR) (m k : Nat) : Prop := ∃ xs : List Value, w.ownsRow 0 3 1 r.v r.n xs ∧ ∀ i, i < m → xs[i]? = some (.int .i64 (markZ k i))
theorem RowK.le {w : World} {r : IR} {m m' k : Nat} (h : RowK w r m k) (hm : m' ≤ m) : RowK w r m' k := by
 obtain ⟨xs, h1, h2⟩ := h
 exact ⟨xs, h1, fun i hi => h2 i (by omega)⟩
theorem RowK.chg {w w' : World} {S : List Nat} {r : IR} {m k : Nat} (h : RowK w r m k) (hc : Chg S w w') (hn : ∀ x, r.blk = some x → x ∉ S) : RowK w' r m k := by
 obtain ⟨xs, h1, h2⟩ := h
 exact ⟨xs, hc.row h1 hn, h2⟩
theorem row_form {w : World} {B e sz : Nat} {r : IR} {n : Nat} {xs : List Value} (h : w.ownsRow B e sz r.v n xs) : (r.a = none ∧ r.n = 0 ∧ r.c = 0 ∧ r.blk = none) ∨ ∃ g, r.a = some ⟨g, 0, none⟩ ∧ r.blk = some g ∧ g < w.heap.size ∧ r.n = n ∧ n ≤ r.c ∧ r.c ≤ maxLen := by
 obtain ⟨a, m, c⟩ := r
 rcases h.2 with ⟨h0, h1⟩ | ⟨g, cap, cur, h0, hb, hg, hn, hc, _⟩
 ·simp only [IR.v] at h0
  cases h0
  exact .inl ⟨rfl, rfl, rfl, rfl⟩
 ·simp only [IR.v] at h0
  cases h0
  exact .inr ⟨g, rfl, rfl, lt_of_block hg, rfl, hn, hc⟩
theorem RowK.take {w : World} {r g : IR} {m k : Nat} (h : RowK w g m k) (h1 : g.a = r.a) (h2 : g.c = r.c) (h3 : r.n ≤ g.n) (h4 : r.n ≤ m) (h5 : r.a = none → r.n = 0 ∧ r.c = 0) : RowK w r r.n k := by
 obtain ⟨xs, q1, q2⟩ := h
 obtain ⟨ga, gn, gc⟩ := g
 obtain ⟨ra, rn, rc⟩ := r
 simp only at h1 h2 h3 h4 h5
 subst h1 h2
 cases ga with
 | none =>
  obtain ⟨rfl, rfl⟩ := h5 rfl
  exact ⟨[], World.ownsRow_nil _ _ _ _, fun i hi => by simp only at hi; omega⟩
 | some b =>
  have := row_take q1 h3 (by simp)
  rw [Nat.mul_one] at this
  refine ⟨_, this, fun i hi => ?_⟩
  simp only at hi
  rw [List.getElem?_take_of_lt hi]
  exact q2 i (by omega)
def upd {α : Type} (f : Nat → α) (k : Nat) (x : α) : Nat → α := fun j => if j = k then x else f j
theorem upd_same {α : Type} (f : Nat → α) (k : Nat) (x : α) : upd f k x k = x := by simp [upd]
theorem upd_ne {α : Type} (f : Nat → α) {k j : Nat} (x : α) (h : j ≠ k) : upd f k x j = f j := by simp [upd, h]

/-- Rows, and what was grown of each. -/
structure Aps (N : Nat) (w : World) (R G : Nat → IR) (m : Nat → Nat) : Prop where
 row : ∀ j, j < N → RowK w (R j) (R j).n j
 grown : ∀ j, j < N → (R j).n ≤ (G j).n ∧ (R j).n ≤ m j ∧ RowK w (G j) (m j) j
 share : ∀ j, j < N → (G j).blk = (R j).blk → (G j).a = (R j).a ∧ (G j).c = (R j).c
 apart : ∀ i j, i < N → j < N → i ≠ j → ∀ x, ((R i).blk = some x ∨ (G i).blk = some x) → ¬ ((R j).blk = some x ∨ (G j).blk = some x)
theorem Aps.chg0 {N : Nat} {w w' : World} {R G : Nat → IR} {m : Nat → Nat} (h : Aps N w R G m) (hc : Chg [] w w') : Aps N w' R G m :=
 ⟨fun j hj => (h.row j hj).chg hc (fun _ _ => by simp), fun j hj => ⟨(h.grown j hj).1, (h.grown j hj).2.1, (h.grown j hj).2.2.chg hc (fun _ _ => by simp)⟩, h.share, h.apart⟩
/-- Blocks that are no rows of numbers are written. -/
theorem Aps.chgT {N : Nat} {w w' : World} {S : List Nat} {R G : Nat → IR} {m : Nat → Nat} (h : Aps N w R G m) (hc : Chg S w w') (hS : ∀ k ∈ S, NotRow w 3 k) : Aps N w' R G m :=
 ⟨fun j hj => by obtain ⟨xs, h1, h2⟩ := h.row j hj; exact ⟨xs, hc.rowOf h1 hS, h2⟩, fun j hj => by obtain ⟨h3, h4, xs, h1, h2⟩ := h.grown j hj; exact ⟨h3, h4, xs, hc.rowOf h1 hS, h2⟩, h.share, h.apart⟩
theorem Aps.step {N k : Nat} {w w' : World} {R G : Nat → IR} {m : Nat → Nat} (h : Aps N w R G m) (hk : k < N) {s g' : IR} (hs : s = R k ∨ s = G k) {m' : Nat} {ys : List Value} (hown : w'.ownsRow 0 3 1 g'.v g'.n ys) (hm : ∀ i, i < m' → ys[i]? = some (.int .i64 (markZ k i)))
  (hg : w.grownBy w' s.blk) (hor : (∃ g cap, s.v = .slice (some ⟨g, 0, none⟩) s.n cap ∧ g'.v = .slice (some ⟨g, 0, none⟩) g'.n cap) ∨ Chg [] w w' ∧ (g'.v = s.v ∨ g'.blk = none ∨ g'.blk = some w.heap.size)) (hn : (R k).n ≤ g'.n) (hm' : (R k).n ≤ m') :
  Aps N w' R (upd G k g') (upd m k m') := by
 have hRk := h.row k hk
 have hnew : RowK w' g' m' k := ⟨ys, hown, hm⟩
 have hform : ∀ j, j < N → ∀ x, ((R j).blk = some x ∨ (G j).blk = some x) → x < w.heap.size := fun j hj x hx => by
  obtain ⟨xs, h1, _⟩ := h.row j hj
  obtain ⟨_, _, ys, h2, _⟩ := h.grown j hj
  rcases hx with hx | hx
  ·exact (row_beyond h1 hx).2.1
  ·exact (row_beyond h2 hx).2.1
 have hRn : (R k).a = none → (R k).n = 0 ∧ (R k).c = 0 := fun ha => by
  obtain ⟨xs, h1, _⟩ := hRk
  rcases row_form h1 with ⟨_, q1, q2, _⟩ | ⟨g, q1, _⟩
  ·exact ⟨q1, q2⟩
  ·rw [ha] at q1; cases q1
 rcases hor with ⟨g, cap, e1, e2⟩ | ⟨hc, hv⟩
 ·have hsb : s.blk = some g := by unfold IR.blk; rw [e1]; rfl
  have hgb : g'.blk = some g := by unfold IR.blk; rw [e2]; rfl
  have hc : Chg [g] w w' := (Chg.refl _ w).grown hg (fun j hj => .inl (by rw [hsb] at hj; cases hj; simp))
  have hga : g'.a = some ⟨g, 0, none⟩ ∧ g'.c = cap := by simp only [IR.v] at e2; cases g'; cases e2; exact ⟨rfl, rfl⟩
  have hsa : s.a = some ⟨g, 0, none⟩ ∧ s.c = cap := by simp only [IR.v] at e1; cases s; cases e1; exact ⟨rfl, rfl⟩
  have hmine : (R k).blk = some g ∨ (G k).blk = some g := by rcases hs with rfl | rfl; exact .inl hsb; exact .inr hsb
  have hoth : ∀ j, j < N → j ≠ k → ∀ x, ((R j).blk = some x ∨ (G j).blk = some x) → x ≠ g := fun j hj hne x hx e => by
   subst e
   exact h.apart j k hj hk hne x hx hmine
  -- the row itself, when it lies in the block that grew
  have hsame : (R k).blk = some g → g'.a = (R k).a ∧ g'.c = (R k).c := fun hb => by
   rcases hs with rfl | rfl
   ·exact ⟨hga.1.trans hsa.1.symm, hga.2.trans hsa.2.symm⟩
   ·obtain ⟨q1, q2⟩ := h.share k hk (hsb.trans hb.symm)
    exact ⟨hga.1.trans (hsa.1.symm.trans q1), hga.2.trans (hsa.2.symm.trans q2)⟩
  refine ⟨fun j hj => ?_, fun j hj => ?_, fun j hj => ?_, fun i j hi hj hij x => ?_⟩
  ·by_cases e : j = k
   ·subst e
    by_cases hb : (R j).blk = some g
    ·obtain ⟨q1, q2⟩ := hsame hb
     exact hnew.take q1 q2 hn hm' hRn
    ·exact (h.row j hj).chg hc (fun x hx hm => by simp at hm; subst hm; exact hb hx)
   ·exact (h.row j hj).chg hc (fun x hx hm => by simp at hm; exact hoth j hj e x (.inl hx) hm)
  ·by_cases e : j = k
   ·subst e
    rw [upd_same, upd_same]
    exact ⟨hn, hm', hnew⟩
   ·rw [upd_ne _ _ e, upd_ne _ _ e]
    obtain ⟨q1, q2, q3⟩ := h.grown j hj
    exact ⟨q1, q2, q3.chg hc (fun x hx hm => by simp at hm; exact hoth j hj e x (.inr hx) hm)⟩
  ·by_cases e : j = k
   ·subst e
    rw [upd_same]
    intro hb
    exact hsame (hb.symm.trans hgb)
   ·rw [upd_ne _ _ e]
    exact h.share j hj
  ·by_cases e1 : i = k
   ·subst e1
    rw [upd_same, upd_ne _ _ (Ne.symm hij)]
    intro hx
    refine h.apart i j hi hj hij x ?_
    rcases hx with hx | hx
    ·exact .inl hx
    ·rw [hgb] at hx; cases hx; exact hmine
   ·by_cases e2 : j = k
    ·subst e2
     rw [upd_same, upd_ne _ _ e1]
     intro hx hy
     refine h.apart i j hi hj hij x hx ?_
     rcases hy with hy | hy
     ·exact .inl hy
     ·rw [hgb] at hy; cases hy; exact hmine
    ·rw [upd_ne _ _ e1, upd_ne _ _ e2]
     exact h.apart i j hi hj hij x
 ·have hblk : g'.blk = s.blk ∨ g'.blk = none ∨ g'.blk = some w.heap.size := by
   rcases hv with h1 | h1 | h1
   ·left; unfold IR.blk; rw [h1]
   ·exact .inr (.inl h1)
   ·exact .inr (.inr h1)
  have hbx : ∀ x, g'.blk = some x → ((R k).blk = some x ∨ (G k).blk = some x) ∨ x = w.heap.size := fun x hx => by
   rcases hblk with h1 | h1 | h1
   ·rw [h1] at hx
    rcases hs with rfl | rfl
    ·exact .inl (.inl hx)
    ·exact .inl (.inr hx)
   ·rw [h1] at hx; cases hx
   ·rw [h1] at hx; cases hx; exact .inr rfl
  refine ⟨fun j hj => (h.row j hj).chg hc (fun _ _ => by simp), fun j hj => ?_, fun j hj => ?_, fun i j hi hj hij x => ?_⟩
  ·by_cases e : j = k
   ·subst e
    rw [upd_same, upd_same]
    exact ⟨hn, hm', hnew⟩
   ·rw [upd_ne _ _ e, upd_ne _ _ e]
    obtain ⟨q1, q2, q3⟩ := h.grown j hj
    exact ⟨q1, q2, q3.chg hc (fun _ _ => by simp)⟩
  ·by_cases e : j = k
   ·subst e
    rw [upd_same]
    intro hb
    rcases hv with h1 | h1
    ·have e2 : g'.a = s.a ∧ g'.c = s.c := by simp only [IR.v] at h1; cases g'; cases s; cases h1; exact ⟨rfl, rfl⟩
     rcases hs with rfl | rfl
     ·exact e2
     ·have hb2 : (G j).blk = (R j).blk := by rw [← hb]; unfold IR.blk; rw [h1]
      obtain ⟨q1, q2⟩ := h.share j hj hb2
      exact ⟨e2.1.trans q1, e2.2.trans q2⟩
    ·rcases h1 with h1 | h1
     ·rw [h1] at hb
      obtain ⟨xs, r1, _⟩ := hRk
      rcases row_form r1 with ⟨p1, p2, p3, _⟩ | ⟨g, _, p2, _⟩
      ·rcases row_form hown with ⟨z1, z2, z3, _⟩ | ⟨g, _, z2, _⟩
       ·exact ⟨z1.trans p1.symm, z3.trans p3.symm⟩
       ·rw [h1] at z2; cases z2
      ·rw [← hb] at p2; cases p2
     ·rw [h1] at hb
      exact absurd (hform j hj _ (.inl hb.symm)) (Nat.lt_irrefl _)
   ·rw [upd_ne _ _ e]
    exact h.share j hj
  ·by_cases e1 : i = k
   ·subst e1
    rw [upd_same, upd_ne _ _ (Ne.symm hij)]
    intro hx hy
    have : ((R i).blk = some x ∨ (G i).blk = some x) ∨ x = w.heap.size := hx.elim (fun hx => .inl (.inl hx)) (hbx x)
    rcases this with hx | rfl
    ·exact h.apart i j hi hj hij x hx hy
    ·exact absurd (hform j hj _ hy) (Nat.lt_irrefl _)
   ·by_cases e2 : j = k
    ·subst e2
     rw [upd_same, upd_ne _ _ e1]
     intro hx hy
     have : ((R j).blk = some x ∨ (G j).blk = some x) ∨ x = w.heap.size := hy.elim (fun hy => .inl (.inl hy)) (hbx x)
     rcases this with hy | rfl
     ·exact h.apart i j hi hj hij x hx hy
     ·exact absurd (hform i hi _ hx) (Nat.lt_irrefl _)
    ·rw [upd_ne _ _ e1, upd_ne _ _ e2]
     exact h.apart i j hi hj hij x
end Go.Proofs.YtlklmpjakeedcaaGreatDoor

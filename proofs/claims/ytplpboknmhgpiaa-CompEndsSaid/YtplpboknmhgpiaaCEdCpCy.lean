/-
  gram.Copy: the same grammar in memory of its own.
  Conditions: the grammar reads as data; it is small.
-/
import Derived.Test.YtplpboknmhgpiaaCEdGBool
import Derived.Maps.AppendAt
import Derived.Laws.MakeOwn
import Derived.Test.YtplpboknmhgpiaaCEdCpOpen
import Derived.Test.YtplpboknmhgpiaaCEdGCopy
set_option linter.unusedVariables false
set_option linter.unusedSimpArgs false
namespace Go.Proofs.Ytplpboknmhgpiaa
open Go.RowKit Go.MapKept Go.Shelf
attribute [local go_sem] Oper.semAt_some

/-- A grammar of one's own, new. -/
def DupG (w : World) (g : Gr) (e : Ending) (w' : World) : Prop :=
  ∃ b1 d1 b2 d2 L, e = .returned (.agg #[.slice b1 g.rules.length d1, .slice b2 g.nodes.length d2]) ∧ L.map (·.1) = g.nodes ∧ OwnG w.heap.size w' b1 d1 b2 d2 L g.rules ∧ Chg [] w w'

/-- Between two rounds. -/
structure DupI (w : World) (Br Bo Bl : Nat) (vl : Value) (b1 : Option Addr) (d1 : Nat) (g : Gr) (pre : List Cp) (W : World) : Prop where
  own : ∃ a2 c2, W.heap[Bo]? = some (.cells #[.slice b1 g.rules.length d1, .slice a2 pre.length c2] 142 (0, 0)) ∧ OwnG w.heap.size W b1 d1 a2 c2 pre g.rules
  at_ : pre.map (·.1) = g.nodes.take pre.length
  len : pre.length ≤ g.nodes.length
  res : W.heap[Br]? = some (.cells #[.slice none 0 0, .slice none 0 0] 142 (0, 0))
  lst : W.heap[Bl]? = some (.cells #[vl] 126 (0, 0))
  chg : Chg [] w W
theorem DupI.stays {w : World} {Br Bo Bl : Nat} {vl : Value} {b1 : Option Addr} {d1 : Nat} {g : Gr} {pre : List Cp} {B : Nat} (hB : w.heap.size ≤ B) : Stays B (DupI w Br Bo Bl vl b1 d1 g pre) := by
  refine ⟨fun h hc => ?_, fun h ht => ?_⟩
  · obtain ⟨⟨a2, c2, h1, h2⟩, h3, h4, h5, h7, h6⟩ := h
    exact ⟨⟨a2, c2, hc.heap h1 (by simp), h2.chg0 hc⟩, h3, h4, hc.heap h5 (by simp), hc.heap h7 (by simp), h6.tr0 hc⟩
  · obtain ⟨⟨a2, c2, h1, h2⟩, h3, h4, h5, h7, h6⟩ := h
    exact ⟨⟨a2, c2, ht.heap h1 rfl, (OwnG.stays B _ _ _ _ _ _ _).turn h2 ht⟩, h3, h4, ht.heap h5 rfl, ht.heap h7 rfl, (Stays.since B [] w hB).turn h6 ht⟩
theorem CopyX.stays (B n₀ : Nat) (ns : List Nd) (pre : List Cp) (p : Cp) : Stays B (CopyX n₀ ns pre p) :=
  (Stays.pure _).and ((Stays.row B _ _ _ _ _ _).and (Stays.pure _))

end Go.Proofs.Ytplpboknmhgpiaa
set_option linter.unusedVariables false
set_option linter.unusedSimpArgs false
namespace Go.Proofs.Ytplpboknmhgpiaa
open Go.RowKit Go.MapKept Go.Shelf

set_option maxRecDepth 100000 in
set_option maxHeartbeats 1000000 in
theorem CopyIntsF_any (w : World) (a : Option Addr) (n c : Nat) (zs : List Int) (hn : n = zs.length) (hs : n ≤ 17592186044416) (hz : Ints w a zs) :
    Calls Try.prog 32 #[.slice a n c] w (ClonedInts w zs) := by
  obtain ⟨i0, hi, hz0, hz1, hz2⟩ := info_parts Try.infoInt
  cases a with
  | none =>
    obtain rfl := ints_none hz
    obtain rfl : n = 0 := by simpa using hn
    clear hz hn
    have hnil : w.ownsRow w.heap.size 3 1 (.slice none 0 0) 0 [] := World.ownsRow_nil _ _ _ _
    have HN := Lib.hid hnil
    clear hnil
    go_enter Try.func32, Try.ntmps32
    go_wp2_with (at_builtin; refine wpList_append_nil rfl _ _ 26 rfl w.heap.size 3 i0 1 c Try.underlying26 hi (.slice none 0 0) 0 [] rfl HN.out rfl ?_)
    go_ret
    exact ⟨none, 0, rfl, HN.out, Chg.refl _ _⟩
  | some b =>
    have hl : (zs.map (Value.int .i64)).length = n * 1 := by simp [hn]
    have h1 : ∀ u ∈ zs.map (Value.int .i64), u.oneCell' = true := by
      intro u hu
      obtain ⟨z, _, rfl⟩ := List.mem_map.1 hu
      rfl
    have h2 : 0 + n ≤ maxLen ∧ (0 + n) * 8 ≤ 140737488355328 := by simp only [maxLen]; omega
    have HN := Lib.hid (And.intro hl (And.intro (ints_some hz) (And.intro h1 (And.intro h2 hn))))
    clear hl h1 h2 hz hn
    go_enter Try.func32, Try.ntmps32
    go_wp2_with (at_builtin; refine wpList_append_own_at _ rfl _ _ 26 rfl w.heap.size 3 i0 _ 1 8 Try.underlying26 hi hz0 hz1 hz2 rfl (by decide) (.slice none 0 0) 0 [] rfl (World.ownsRow_nil _ _ _ _) b n c (zs.map (Value.int .i64)) rfl HN.out.1 HN.out.2.1 HN.out.2.2.1 HN.out.2.2.2.1.1 HN.out.2.2.2.1.2 (Nat.le_refl _) ?_; intro v' w1 hown hgrow hnil hblk; obtain ⟨a', c', rfl⟩ := ownsRow_slice hown; have HW := Lib.hid (And.intro hown hgrow); clear hown hgrow hnil hblk)
    go_ret
    obtain ⟨hl, h3, h1, h2, hn⟩ := HN.out
    obtain ⟨hr, hg⟩ := HW.out
    subst hn
    simp only [Nat.zero_add] at hr ⊢
    exact ⟨a', c', rfl, by simpa [FreshInts] using hr, (Chg.refl _ _).grown hg (fun k hk => by cases hk)⟩

def NewNodeF (w : World) (x : Nd) (e : Ending) (w' : World) : Prop :=
  ∃ a c, e = .returned (.agg (x.cells a x.kids.length c)) ∧ FreshInts w.heap.size w' a c x.kids ∧ Chg [] w w'

/-- Nodes in rows of their own. -/
def NewBody (w : World) (ns : List Nd) (e : Ending) (w' : World) : Prop :=
  ∃ a c L, e = .returned (.slice a ns.length c) ∧ L.map (·.1) = ns ∧ OwnG w.heap.size w' none 0 a c L [] ∧ Chg [] w w'

end Go.Proofs.Ytplpboknmhgpiaa
set_option linter.unusedVariables false
set_option linter.unusedSimpArgs false
namespace Go.Proofs.Ytplpboknmhgpiaa
open Go.RowKit Go.MapKept

/-- A row without elements, with room. -/
theorem made_row {P : Program} {t e : TypeId} {i : TypeInfo} {z : Value} {size : Nat} (ht : P.underlying t = some (.slice e)) (hi : P.info? e = some i) (hz : i.zero = some z) (hsize : i.size = size) {m : Nat} (hb : i.bytes * m ≤ 281474976710656) (h63 : m ≤ maxLen) :
    ∃ ob, (∀ W : World, (Instr.makeSlice t (.int .i64 0) (.int .i64 (m : Int))).run P W = .ok (.slice (some ⟨W.heap.size, 0, none⟩) 0 m) (W.alloc ob)) ∧ ∀ (W : World) (base : Nat), base ≤ W.heap.size → (W.alloc ob).ownsRow base e size (.slice (some ⟨W.heap.size, 0, none⟩) 0 m) 0 [] := by
  subst hsize
  have h63' : (m : Int) ≤ 9223372036854775807 := by simp only [maxLen] at h63; omega
  have hb' : (i.bytes : Int) * (m : Int) ≤ 281474976710656 := by
    have h : ((i.bytes * m : Nat) : Int) ≤ 281474976710656 := by omega
    rwa [Int.natCast_mul] at h
  refine ⟨.cells (madeCells z.cells (m * i.size)) e, fun W => ?_, fun W base hbase => World.ownsRow_made W _ m hbase h63 (size_madeCells _ _)⟩
  have hr := run_make (P := P) W t e i z ht hi hz .i64 .i64 0 m (Int.le_refl _) (by omega) hb' h63'
  simp only [Int.toNat_zero, Int.toNat_natCast] at hr
  exact hr

/-- 'append(s, x...)': the row's own block grows, or there is a new one and all is as it was. -/
theorem run_append_two {P : Program} (w : World) (base : Nat) (t ty e : TypeId) (i : TypeInfo) (z : Value) (size bytes : Nat) (ht : P.underlying t = some (.slice e)) (hi : P.info? e = some i) (hz : i.zero = some z)
    (hsize : i.size = size) (hby : i.bytes = bytes) (hzs : z.cells.size = size) (hsz : 0 < size) (v : Value) (n : Nat) (xs : List Value) (hown : w.ownsRow base e size v n xs)
    (a : Addr) (m c : Nat) (news : List Value) (hl : news.length = m * size) (hnews : ∀ j u, news[j]? = some u → w.cell? (a.add j) = some u) (h1 : ∀ u ∈ news, u.oneCell' = true)
    (h63 : n + m ≤ maxLen) (hbytes : (n + m) * bytes ≤ 140737488355328) (hbase : base ≤ w.heap.size) :
    ∃ v' w', (Builtin.append_ #[t, t] ty #[v, .slice (some a) m c]).run P w = .ok v' w' ∧ w'.ownsRow base e size v' (n + m) (xs ++ news) ∧ w.grownBy w' v.ownBlock ∧
      ((∃ g cap, v = .slice (some ⟨g, 0, none⟩) n cap ∧ v' = .slice (some ⟨g, 0, none⟩) (n + m) cap) ∨ Chg [] w w' ∧ (v'.ownBlock = none ∨ v'.ownBlock = some w.heap.size)) := by
  obtain ⟨v', w', hr, ho, hg, hn, hb⟩ := run_append_own_at (P := P) w base t ty e i z size bytes ht hi hz hsize hby hzs hsz v n xs hown a m c news hl hnews h1 h63 hbytes hbase
  refine ⟨v', w', hr, ho, hg, ?_⟩
  subst hsize
  subst hby
  have hsmall : n + m ≤ 9223372036854775807 := by simp only [maxLen] at h63; omega
  rcases hown.2 with ⟨rfl, rfl⟩ | ⟨g, cap, cur, rfl, hbg, hgg, hnc, hcm, hcs, htake⟩
  · exact .inr ⟨⟨hg.os, hg.tape, hg.output, hg.size, fun k hk _ => hg.block k hk (by simp [Value.ownBlock])⟩, hb⟩
  · by_cases hroom : n + m ≤ cap
    · have hfit : n * i.size + news.length ≤ cur.size := by rw [hl, hcs, ← Nat.add_mul]; exact Nat.mul_le_mul_right _ hroom
      have hr' := run_append_room (P := P) w t ty e i ht hi g n cap cur hgg a m c news hl hnews h1 hroom hfit
      rw [hr'] at hr
      cases hr
      exact .inl ⟨g, cap, rfl, rfl⟩
    · have holds : ∀ j u, xs[j]? = some u → w.cell? ((⟨g, 0, none⟩ : Addr).add j) = some u := hown.cells (g := g) rfl
      have hr' := run_append_grow (P := P) w t ty e i z ht hi hz ⟨g, 0, none⟩ n cap xs hown.1 holds a m c news hl hnews (by omega) (by omega) (growslice_fits (by omega) hbytes)
      rw [hr'] at hr
      cases hr
      exact .inr ⟨((Chg.refl [] w).drew).alloc _, .inr rfl⟩
theorem wpList_append_two {P : Program} {w : World} {ops : Array Oper} {rest : List Oper} {o : Oper} {a : Act} {Q : Exit → Act → World → Prop} (hgd : o.guard = none) (s x : Operand) (t : TypeId)
    (ho : o.op = .call { callee := .builtin .append, args := #[s, x], argTypes := #[t, t] })
    (base : Nat) (e : TypeId) (i : TypeInfo) (z : Value) (size bytes : Nat) (ht : P.underlying t = some (.slice e)) (hi : P.info? e = some i) (hz : i.zero = some z)
    (hsize : i.size = size) (hby : i.bytes = bytes) (hzs : z.cells.size = size) (hsz : 0 < size)
    (v : Value) (n : Nat) (xs : List Value) (hs : a.eval s = v) (hown : w.ownsRow base e size v n xs)
    (ad : Option Addr) (m c : Nat) (news : List Value) (hx : a.eval x = .slice ad m c) (hl : news.length = m * size) (hnone : ad = none → m = 0) (hnews : ∀ b, ad = some b → ∀ j u, news[j]? = some u → w.cell? (b.add j) = some u) (h1 : ∀ u ∈ news, u.oneCell' = true)
    (h63 : n + m ≤ maxLen) (hbytes : (n + m) * bytes ≤ 140737488355328) (hbase : base ≤ w.heap.size)
    (h : ∀ v' w', w'.ownsRow base e size v' (n + m) (xs ++ news) → w.grownBy w' v.ownBlock → ((∃ g cap, v = .slice (some ⟨g, 0, none⟩) n cap ∧ v' = .slice (some ⟨g, 0, none⟩) (n + m) cap) ∨ Chg [] w w' ∧ (v' = v ∨ v'.ownBlock = none ∨ v'.ownBlock = some w.heap.size)) → wpList P ops Q rest (a.put o.dst v') w') :
    wpList P ops Q (o :: rest) a w := by
  cases ad with
  | none =>
    obtain rfl := hnone rfl
    obtain rfl : news = [] := List.eq_nil_of_length_eq_zero (by simpa using hl)
    refine wpList_append_nil hgd s x t ho base e i size c ht hi v n xs hs hown hx (h v w (by simpa using hown) ⟨rfl, rfl, rfl, Nat.le_refl _, fun _ _ _ => rfl⟩ (.inr ⟨Chg.refl _ _, .inl rfl⟩))
  | some ad =>
    refine wpList_plain hgd fun K hK => ?_
    obtain ⟨v', w', hr, h2, h3, h4⟩ := run_append_two (P := P) w base t o.type e i z size bytes ht hi hz hsize hby hzs hsz v n xs hown ad m c news hl (hnews ad rfl) h1 h63 hbytes hbase
    unfold Oper.wp execOp
    simp only [ho, resolve, invoke, builtin, Sem.run_bind, Sem.run_pure, Result.andThen_ok, List.map_toArray, List.map_cons, List.map_nil, hs, hx, hr]
    exact hK _ _ (h v' w' h2 h3 (h4.imp id fun h5 => ⟨h5.1, .inr h5.2⟩))
/-- A cell of a row of one's own is written. -/
theorem row_put {w : World} {B e size n c g : Nat} {xs : List Value} (h : w.ownsRow B e size (.slice (some ⟨g, 0, none⟩) n c) n xs) {i : Nat} (hi : i < n * size) :
    w.cell? ⟨g, i, none⟩ = xs[i]? ∧ w.frozen? ⟨g, i, none⟩ = false ∧ B ≤ g ∧ (∃ cur, w.heap[g]? = some (.cells cur e (0, 0))) ∧
      ∀ u, (w.setCell ⟨g, i, none⟩ u).ownsRow B e size (.slice (some ⟨g, 0, none⟩) n c) n (xs.set i u) ∧ Chg [g] w (w.setCell ⟨g, i, none⟩ u) := by
  have hl := h.1
  rcases h.2 with ⟨h0, h1⟩ | ⟨g, cap, cur, h0, hb, hg, hn, hcm, hcs, ht⟩
  · cases h0
  cases h0
  refine ⟨?_, free_of_cells hg _, hb, ⟨cur, hg⟩, fun u => ⟨⟨by rw [List.length_set]; exact hl, .inr ⟨g, c, _, rfl, hb, heap_setCell_same hg _ _, hn, hcm, by simpa using hcs, ?_⟩⟩, (Chg.refl [g] w).setCell (p := ⟨g, i, none⟩) (.inl (by simp)) _⟩⟩
  · rw [cell_of_cells hg, ← ht, List.getElem?_take, if_pos hi]
    simp
  · rw [Array.toList_setIfInBounds, List.take_set, ht]
/-- A row's first elements. -/
theorem row_take {w : World} {B e size n c : Nat} {b : Option Addr} {xs : List Value} (h : w.ownsRow B e size (.slice b n c) n xs) {m : Nat} (hm : m ≤ n) (hbn : b ≠ none) :
    w.ownsRow B e size (.slice b m c) m (xs.take (m * size)) := by
  have hl := h.1
  rcases h.2 with ⟨h0, h1⟩ | ⟨g, cap, cur, h0, hbg, hg, hn, hcm, hcs, ht⟩
  · cases h0
    exact absurd rfl hbn
  cases h0
  have hms : m * size ≤ n * size := Nat.mul_le_mul_right _ hm
  refine ⟨by rw [List.length_take, hl]; omega, .inr ⟨g, c, cur, rfl, hbg, hg, by omega, hcm, hcs, ?_⟩⟩
  rw [← ht, List.take_take, Nat.min_eq_left hms]
end Go.Proofs.Ytplpboknmhgpiaa
set_option linter.unusedVariables false
set_option linter.unusedSimpArgs false
set_option linter.unnecessarySimpa false
namespace Go.Proofs.Ytplpboknmhgpiaa
open Go.RowKit Go.MapKept Go.Shelf

/-- A row copied. -/
def CopyOne (w : World) (p : Is) : Prop := w.ownsRow 0 3 1 p.cell p.2.2.length (p.2.2.map (Value.int .i64))
structure CopyR (B : Nat) (w : World) (a : Option Addr) (c : Nat) (VS : List Is) : Prop where
  row : w.ownsRow B 26 1 (.slice a VS.length c) VS.length (VS.map Is.cell)
  each : ∀ p ∈ VS, CopyOne w p
theorem CopyOne.chg {w w' : World} {S : List Nat} {p : Is} (h : CopyOne w p) (hc : Chg S w w') (hS : ∀ k ∈ S, NotRow w 3 k) : CopyOne w' p := hc.rowOf h hS
theorem CopyR.chg0 {B : Nat} {w w' : World} {a : Option Addr} {c : Nat} {VS : List Is} (h : CopyR B w a c VS) (hc : Chg [] w w') : CopyR B w' a c VS := ⟨hc.row h.row (fun _ _ => by simp), fun p hp => (h.each p hp).chg hc (by simp)⟩
theorem CopyR.rows {B : Nat} {w : World} {a : Option Addr} {c : Nat} {VS : List Is} (h : CopyR B w a c VS) : IntRows w a VS := fun i hi => by
  obtain ⟨b, e, hcell⟩ : ∃ b, a = some ⟨b, 0, none⟩ ∧ w.cell? ⟨b, i, none⟩ = some VS[i].cell := by
    rcases h.row.2 with ⟨h0, h1⟩ | ⟨g, cap, cur, h0, hb, hg, hn, hc, hs, ht⟩
    · omega
    · simp only [Value.slice.injEq] at h0
      obtain ⟨rfl, -, rfl⟩ := h0
      refine ⟨g, rfl, ?_⟩
      have := (row_put h.row (i := i) (by omega)).1
      rw [this]; simp [hi]
  obtain ⟨h1, h2, h3, h4⟩ := ownInts_read (w := w) (a := VS[i].1) (n := VS[i].2.2.length) (c := VS[i].2.1) (zs := VS[i].2.2) (h.each _ (List.getElem_mem hi))
  simp only [maxLen] at h4
  exact ⟨b, 0, e, by rw [Nat.zero_add]; exact hcell, h1, by omega⟩
def CopyRowsP (w : World) (zss : List (List Int)) (e : Ending) (w' : World) : Prop := ∃ a c VS, e = .returned (.slice a zss.length c) ∧ VS.map (·.2.2) = zss ∧ CopyR w.heap.size w' a c VS ∧ Chg [] w w'

set_option maxRecDepth 100000 in
set_option maxHeartbeats 4000000 in
theorem CopyIntRows_any (w : World) (a : Option Addr) (n c : Nat) (VS : List Is) (hn : n = VS.length) (hs : n ≤ 1000000) (hl : ∀ p ∈ VS, p.2.2.length ≤ 1000000) (hx : IntRows w a VS) :
    Calls Try.prog 18 #[.slice a n c] w (CopyRowsP w (VS.map (·.2.2))) := by
  obtain ⟨j0, hj0, hy0, hy1, hy2⟩ := info_parts Try.infoInts
  have H := Lib.hid (And.intro hn (And.intro hx hl))
  clear hn hx hl
  go_enter Try.func18, Try.ntmps18
  go_wp2_with fail
  go_loopg [4, 3] n (fun d iv ov wr => ∃ (i : Nat) (oa : Option Addr) (oc : Nat), d = n - i ∧ i ≤ n ∧ iv = .int .i64 i ∧ ov = .slice oa i oc ∧ Hid (∃ US : List Is, US.length = i ∧ US.map (·.2.2) = (VS.map (·.2.2)).take i ∧ CopyR w.heap.size wr oa oc US ∧ Chg [] w wr))
  case atStart => exact ⟨0, none, 0, rfl, Nat.zero_le _, rfl, rfl, Lib.hid ⟨[], rfl, rfl, ⟨World.ownsRow_nil _ _ _ _, by simp⟩, Chg.refl _ _⟩⟩
  case round =>
    obtain ⟨i, oa, oc, rfl, hi, rfl, rfl, hin⟩ := hrel
    obtain ⟨wq, rfl⟩ : ∃ wq, wq = wr := ⟨_, rfl⟩
    by_cases hlt : i < n
    · obtain ⟨US, u1, u2, u3, u4⟩ := hin.out
      have hiv : i < VS.length := by have := H.out.1; omega
      obtain ⟨bx, ox, rfl, hcx, ix, lx⟩ := (H.out.2.1.keep u4.kp) i hiv
      have hlm := H.out.2.2 _ (List.getElem_mem hiv)
      obtain ⟨zs, hzs⟩ : ∃ zs, zs = VS[i].2.2 := ⟨_, rfl⟩
      obtain ⟨va, hva⟩ : ∃ va, va = VS[i].1 := ⟨_, rfl⟩
      obtain ⟨vc, hvc⟩ : ∃ vc, vc = VS[i].2.1 := ⟨_, rfl⟩
      obtain ⟨m, hm⟩ : ∃ m, m = zs.length := ⟨_, rfl⟩
      simp only [Is.cell] at hcx
      rw [← hzs, ← hva, ← hvc, ← hm] at hcx
      rw [← hzs, ← hva] at ix
      rw [← hzs, ← hm] at hlm
      have hlent := CopyInts_any wq va m vc zs hm (by omega) ix
      have hrow := u3.row
      rw [u1] at hrow
      have HU := Lib.hid (And.intro u1 (And.intro u2 (And.intro u3 (And.intro u4 (And.intro hlent (And.intro hzs (And.intro hm hrow)))))))
      clear u1 u2 u3 u4 hlent hzs hm hrow ix lx hva hvc
      go_wp2_with fail
      refine HU.out.2.2.2.2.1.mono ?_
      rintro e w4 ⟨b, cc, rfl, hr4, hc4⟩
      unfold OwnInts at hr4
      obtain ⟨u1, u2, u3, u4, -, hzs, hm, hrow⟩ := HU.out
      rw [← hm] at hr4 ⊢
      have hcA := (Chg.refl [] w4).alloc (Obj.cells #[.slice b m cc] 26)
      have hcq := hc4.tr hcA
      have hrowA := hcq.row hrow (fun _ _ => by simp)
      have hrA := hcA.row hr4 (fun _ _ => by simp)
      have hb1 : ∀ u ∈ [Value.slice b m cc], u.oneCell' = true := by simp [Value.oneCell']
      have hb2 : i + 1 ≤ maxLen ∧ (i + 1) * 24 ≤ 140737488355328 := by simp only [maxLen]; omega
      have hnew := cells_at (w := w4.alloc (Obj.cells #[.slice b m cc] 26)) (heap_alloc_same _ _)
      have hbase := (u4.tr hcq).size
      have HA := Lib.hid (And.intro hrowA (And.intro hb1 (And.intro hb2 (And.intro hnew (And.intro hbase (And.intro hrA (And.intro hcq u4.size)))))))
      clear hrowA hb1 hb2 hnew hbase hrA hcq hcA hr4 hc4 u1 u2 u3 u4 hzs hm hrow
      go_wp2_with (at_builtin; refine wpList_append_own_at _ rfl _ _ 22 rfl w.heap.size 26 j0 _ 1 24 Try.underlying22 hj0 hy0 hy1 hy2 rfl (by decide) (.slice oa i oc) i (US.map Is.cell) rfl HA.out.1 ⟨w4.heap.size, 0, none⟩ 1 1 [.slice b m cc] rfl rfl HA.out.2.2.2.1 HA.out.2.1 HA.out.2.2.1.1 HA.out.2.2.1.2 HA.out.2.2.2.2.1 ?_; intro v' w6 hr5 hg5 hn5 hb5; obtain ⟨a5, c5, rfl⟩ := ownsRow_slice hr5; have HW := Lib.hid (And.intro hr5 hg5); clear hr5 hg5 hn5 hb5)
      go_roundg (n - (i + 1))
      case measure => omega
      case rel =>
        obtain ⟨u1, u2, u3, u4, -, hzs, hm, hrow⟩ := HU.out
        obtain ⟨hrowA, -, -, -, -, hrA, hcq, -⟩ := HA.out
        have hcg : Chg (Value.slice oa i oc).ownBlock.toList (w4.alloc (Obj.cells #[.slice b m cc] 26)) w6 := (Chg.refl _ _).grown HW.out.2 (fun k hk => .inl (by rw [hk]; simp))
        have hnr : ∀ k ∈ (Value.slice oa i oc).ownBlock.toList, NotRow (w4.alloc (Obj.cells #[.slice b m cc] 26)) 3 k := fun k hk => row_notrow hrowA (by simpa using hk) (by decide)
        refine ⟨i + 1, a5, c5, rfl, by omega, by go_num, rfl, Lib.hid ⟨US ++ [(b, cc, zs)], by rw [List.length_append, u1]; rfl, ?_, ⟨?_, fun p hp => ?_⟩, ?_⟩⟩
        · rw [List.map_append, u2, List.take_succ_eq_append_getElem (by rw [List.length_map]; have := H.out.1; omega), List.getElem_map, ← hzs]; rfl
        · rw [List.length_append, u1, List.map_append]
          have := HW.out.1
          rw [hm] at this
          exact this
        · rcases List.mem_append.1 hp with q | q
          · exact ((u3.each p q).chg hcq (by simp)).chg hcg hnr
          · rw [List.mem_singleton.1 q]
            have h1 : CopyOne (w4.alloc (Obj.cells #[.slice b m cc] 26)) (b, cc, zs) := by show World.ownsRow _ _ _ _ (.slice b zs.length cc) zs.length _; rw [← hm]; exact hrA
            exact h1.chg hcg hnr
        · exact (u4.tr hcq).trans hcg (fun j hj => .inr (row_beyond hrowA (by simpa using hj)).1)
    · obtain rfl : i = n := by omega
      go_wp2_with fail
      go_ret
      obtain ⟨US, u1, u2, u3, u4⟩ := hin.out
      rw [List.take_of_length_le (by rw [List.length_map, ← H.out.1]; exact Nat.le_refl _)] at u2
      exact ⟨oa, oc, US, by rw [List.length_map, ← H.out.1]; rfl, u2, u3, u4⟩

end Go.Proofs.Ytplpboknmhgpiaa

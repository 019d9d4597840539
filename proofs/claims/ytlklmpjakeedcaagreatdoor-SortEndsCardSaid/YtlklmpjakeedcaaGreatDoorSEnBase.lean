/-
 What every walk of this family uses: that all blocks but some are as they were; what a map's block holds, as a function; slices that read as a list of cells.
 Conditions: none.
-/
import Derived.WalkKit
import Derived.WalkSpells
import Derived.WalkLawsBesides
import Derived.Maps.Keyed
import Derived.Carry
import Derived.Lib.Hide
import Derived.DeepKeys4
import Derived.Deep.RegionLaw
set_option linter.unusedVariables false
set_option linter.unusedSimpArgs false
namespace Go.Proofs.YtlklmpjakeedcaaGreatDoor
open Go.RowKit Go.MapKept

theorem ret_bool {a b : Bool} (h : a = b) : Ending.returned (.bool a) = .returned (.bool b) := by rw [h]
theorem ret_int {k : IntKind} {a b : Int} (h : a = b) : Ending.returned (.int k a) = .returned (.int k b) := by rw [h]

/-! ### 1. All blocks but some are as they were -/

/-- All blocks that were there, but those of S, are as they were. -/
structure Chg (S : List Nat) (w w' : World) : Prop where
 os : w'.os = w.os
 tape : w'.tape = w.tape
 output : w'.output = w.output
 size : w.heap.size ≤ w'.heap.size
 block : ∀ k, k < w.heap.size → k ∉ S → w'.heap[k]? = w.heap[k]?

theorem Chg.refl (S : List Nat) (w : World) : Chg S w w := ⟨rfl, rfl, rfl, Nat.le_refl _, fun _ _ _ => rfl⟩
theorem Chg.trans {S T : List Nat} {a b c : World} (h : Chg S a b) (k : Chg T b c) (hT : ∀ j ∈ T, j ∈ S ∨ a.heap.size ≤ j) : Chg S a c :=
 ⟨k.os.trans h.os, k.tape.trans h.tape, k.output.trans h.output, Nat.le_trans h.size k.size, fun i hi hn =>
  (k.block i (Nat.lt_of_lt_of_le hi h.size) (fun hm => (hT i hm).elim (fun h' => hn h') (fun h' => absurd hi (Nat.not_lt.2 h')))).trans (h.block i hi hn)⟩
theorem Chg.tr {S : List Nat} {a b c : World} (h : Chg S a b) (k : Chg S b c) : Chg S a c := h.trans k fun _ hj => .inl hj
theorem Chg.tr0 {S : List Nat} {a b c : World} (h : Chg S a b) (k : Chg [] b c) : Chg S a c := h.trans k fun _ hj => by cases hj
theorem Chg.mono {S T : List Nat} {a b : World} (h : Chg S a b) (hT : ∀ j ∈ S, j ∈ T ∨ a.heap.size ≤ j) : Chg T a b :=
 ⟨h.os, h.tape, h.output, h.size, fun i hi hn => h.block i hi (fun hm => (hT i hm).elim (fun h' => hn h') (fun h' => absurd hi (Nat.not_lt.2 h')))⟩
theorem Chg.any {S : List Nat} {a b : World} (h : Chg [] a b) : Chg S a b := h.mono fun _ hj => by cases hj
theorem Chg.drew {S : List Nat} {a w : World} (h : Chg S a w) : Chg S a w.drew := ⟨h.os, h.tape, h.output, h.size, h.block⟩
theorem Chg.drewN {S : List Nat} {a w : World} (h : Chg S a w) (n : Nat) : Chg S a (w.drewN n) := ⟨h.os, h.tape, h.output, h.size, h.block⟩
theorem Chg.alloc {S : List Nat} {a w : World} (h : Chg S a w) (o : Obj) : Chg S a (w.alloc o) :=
 h.tr0 ⟨rfl, rfl, rfl, by simp, fun k hk _ => Below.heap_alloc _ _ _ hk⟩
theorem Chg.setCell {S : List Nat} {a w : World} (h : Chg S a w) {p : Addr} (hp : p.block ∈ S ∨ a.heap.size ≤ p.block) (u : Value) : Chg S a (w.setCell p u) :=
 h.trans (T := [p.block]) ⟨rfl, rfl, rfl, by simp [World.setCell], fun k _ hk => Below.heap_setCell _ _ _ _ (fun e => hk (by simp [e]))⟩ (fun j hj => by simp at hj; subst hj; exact hp)
theorem Chg.grown {S : List Nat} {a w w' : World} {row : Option Nat} (h : Chg S a w) (hg : w.grownBy w' row) (hr : ∀ k, row = some k → k ∈ S ∨ a.heap.size ≤ k) : Chg S a w' :=
 h.trans (T := row.toList) ⟨hg.os, hg.tape, hg.output, hg.size, fun k hk hn => hg.block k hk (fun e => hn (by simp [← e]))⟩ (fun j hj => hr j (by simpa using hj))
theorem Chg.below {S : List Nat} {B : Nat} {w w' : World} (h : Chg S w w') (hB : B ≤ w.heap.size) (hS : ∀ k ∈ S, B ≤ k) : Below B w w' :=
 ⟨h.os, h.tape, h.output, h.size, fun k hk => h.block k (by omega) (fun hm => by have := hS k hm; omega)⟩
theorem Chg.of_below {w w' : World} (h : Below w.heap.size w w') : Chg [] w w' := ⟨h.os, h.tape, h.output, h.size, fun k hk _ => h.block k hk⟩
theorem Chg.cell {S : List Nat} {w w' : World} (h : Chg S w w') {p : Addr} {v : Value} (hc : w.cell? p = some v) (hn : p.block ∉ S) : w'.cell? p = some v :=
 (World.cell?_of_block (w := w) (h.block p.block (World.block_lt_of_cell? _ _ hc) hn)).trans hc
theorem Chg.heap {S : List Nat} {w w' : World} (h : Chg S w w') {k : Nat} {o : Obj} (hc : w.heap[k]? = some o) (hn : k ∉ S) : w'.heap[k]? = some o :=
 (h.block k (lt_of_block hc) hn).trans hc
theorem Chg.row {S : List Nat} {w w' : World} (h : Chg S w w') {base e size n : Nat} {v : Value} {xs : List Value} (hr : w.ownsRow base e size v n xs) (hn : ∀ k, v.ownBlock = some k → k ∉ S) : w'.ownsRow base e size v n xs := by
 refine ⟨hr.1, ?_⟩
 rcases hr.2 with h1 | ⟨g, cap, cur, rfl, hb, hg, rest⟩
 ·exact .inl h1
 ·exact .inr ⟨g, cap, cur, rfl, hb, h.heap hg (hn g rfl), rest⟩

/-- A block of cells that may be written. -/
theorem cell_of_cells {w : World} {b : Nat} {cs : Array Value} {t : TypeId} {m : Nat × Nat} (h : w.heap[b]? = some (.cells cs t m)) (i : Nat) : w.cell? ⟨b, i, none⟩ = cs[i]? := by simp [World.cell?, h]
theorem free_of_cells {w : World} {b : Nat} {cs : Array Value} {t : TypeId} (h : w.heap[b]? = some (.cells cs t (0, 0))) (i : Nat) : w.frozen? ⟨b, i, none⟩ = false := by simp [World.frozen?, h]
theorem heap_setCell_same {w : World} {b : Nat} {cs : Array Value} {t : TypeId} {m : Nat × Nat} (h : w.heap[b]? = some (.cells cs t m)) (i : Nat) (u : Value) : (w.setCell ⟨b, i, none⟩ u).heap[b]? = some (.cells (cs.setIfInBounds i u) t m) := by
 have hlt := lt_of_block h
 have h' : w.heap[b] = .cells cs t m := by simpa [Array.getElem?_eq_getElem hlt] using h
 show (w.heap.modify b _)[b]? = _
 rw [Array.getElem?_eq_getElem (by simpa using hlt), Array.getElem_modify_self, h']
 simp
theorem heap_alloc_same (w : World) (o : Obj) : (w.alloc o).heap[w.heap.size]? = some o := heap_alloc_new w o
theorem heap_alloc_lt {w : World} {k : Nat} {o' : Obj} (h : w.heap[k]? = some o') (o : Obj) : (w.alloc o).heap[k]? = some o' := (Below.heap_alloc w o k (lt_of_block h)).trans h

/-- A row of one type lies in no block of another. -/
theorem ownsRow_ne {w : World} {base e size n k : Nat} {v : Value} {xs : List Value} {cs : Array Value} {t : TypeId} {m : Nat × Nat} (h : w.ownsRow base e size v n xs) (hk : w.heap[k]? = some (.cells cs t m)) (ht : t ≠ e) : v.ownBlock ≠ some k := by
 intro he
 rcases h.2 with ⟨rfl, _⟩ | ⟨g, cap, cur, rfl, _, hg, _⟩
 ·cases he
 ·cases he
  rw [hg] at hk
  cases hk
  exact ht rfl
theorem ownsRow_slice {w : World} {base e size n : Nat} {v : Value} {xs : List Value} (h : w.ownsRow base e size v n xs) : ∃ a c, v = .slice a n c := by
 rcases h.2 with ⟨rfl, rfl⟩ | ⟨g, cap, cur, rfl, _⟩
 ·exact ⟨_, _, rfl⟩
 ·exact ⟨_, _, rfl⟩

theorem cells_at {w : World} {b : Nat} {cs : Array Value} {t : TypeId} {m : Nat × Nat} (h : w.heap[b]? = some (.cells cs t m)) : ∀ j u, cs.toList[j]? = some u → w.cell? ((⟨b, 0, none⟩ : Addr).add j) = some u := by
 intro j u hu
 have hadd : (⟨b, 0, none⟩ : Addr).add j = ⟨b, j, none⟩ := by unfold Addr.add; split <;> simp_all
 rw [hadd, cell_of_cells h]
 simpa using hu
theorem grown_heap {w w' : World} {row : Option Nat} (hg : w.grownBy w' row) {k : Nat} {o : Obj} (h : w.heap[k]? = some o) (hne : row ≠ some k) : w'.heap[k]? = some o :=
 (hg.block k (lt_of_block h) (fun e => hne e.symm)).trans h
/-- Block k is no row of elements of type e. -/
def NotRow (w : World) (e : TypeId) (k : Nat) : Prop := ∀ base size v n xs, w.ownsRow base e size v n xs → v.ownBlock ≠ some k
theorem NotRow.of_cells {w : World} {e k : Nat} {cs : Array Value} {t : TypeId} {m : Nat × Nat} (hk : w.heap[k]? = some (.cells cs t m)) (ht : t ≠ e) : NotRow w e k := fun _ _ _ _ _ h => ownsRow_ne h hk ht
theorem Chg.rowOf {S : List Nat} {w w' : World} (h : Chg S w w') {base e size n : Nat} {v : Value} {xs : List Value} (hr : w.ownsRow base e size v n xs) (hS : ∀ k ∈ S, NotRow w e k) : w'.ownsRow base e size v n xs :=
 h.row hr fun k hk hm => hS k hm _ _ _ _ _ hr hk
/-- 'append' onto a row of one's own: which block the row lies in behind it. -/
theorem run_append_block {P : Program} (w : World) (t ty e : TypeId) (i : TypeInfo) (z : Value) (size bytes : Nat) (ht : P.underlying t = some (.slice e)) (hi : P.info? e = some i) (hz : i.zero = some z)
  (hsize : i.size = size) (hby : i.bytes = bytes) (hzs : z.cells.size = size) (hsz : 0 < size) (v : Value) (n : Nat) (xs : List Value) (hown : w.ownsRow 0 e size v n xs)
  (a : Addr) (m c : Nat) (news : List Value) (hl : news.length = m * size) (hnews : ∀ j u, news[j]? = some u → w.cell? (a.add j) = some u) (h1 : ∀ u ∈ news, u.oneCell' = true)
  (h63 : n + m ≤ maxLen) (hbytes : (n + m) * bytes ≤ 140737488355328) :
  ∃ v' w', (Builtin.append_ #[t, t] ty #[v, .slice (some a) m c]).run P w = .ok v' w' ∧ w'.ownsRow 0 e size v' (n + m) (xs ++ news) ∧ w.grownBy w' v.ownBlock ∧ (v'.ownBlock = v.ownBlock ∨ v'.ownBlock = some w.heap.size) ∧
   (v' = .slice none 0 0 ↔ v = .slice none 0 0 ∧ m = 0) := by
 obtain ⟨v', w', hr, ho, hg, hn⟩ := run_append_own (P := P) w 0 t ty e i z size bytes ht hi hz hsize hby hzs hsz v n xs hown a m c news hl hnews h1 h63 hbytes (Nat.zero_le _)
 refine ⟨v', w', hr, ho, hg, ?_, hn⟩
 subst hsize
 subst hby
 have hsmall : n + m ≤ 9223372036854775807 := by simp only [maxLen] at h63; omega
 rcases hown.2 with ⟨rfl, rfl⟩ | ⟨g, cap, cur, rfl, hbg, hgg, hnc, hcm, hcs, htake⟩
 ·by_cases hm : m = 0
  ·exact .inl (by rw [hn.2 ⟨rfl, hm⟩])
  ·have hr' := run_append_nil (P := P) w t ty e i z ht hi hz a m c news hl hnews (by omega) (by omega) (by have hb := hbytes; simp only [Nat.zero_add] at hb; omega)
   rw [hr'] at hr
   cases hr
   exact .inr rfl
 ·by_cases hroom : n + m ≤ cap
  ·have hfit : n * i.size + news.length ≤ cur.size := by rw [hl, hcs, ← Nat.add_mul]; exact Nat.mul_le_mul_right _ hroom
   have hr' := run_append_room (P := P) w t ty e i ht hi g n cap cur hgg a m c news hl hnews h1 hroom hfit
   rw [hr'] at hr
   cases hr
   exact .inl rfl
  ·have holds : ∀ j u, xs[j]? = some u → w.cell? ((⟨g, 0, none⟩ : Addr).add j) = some u := hown.cells (g := g) rfl
   have hr' := run_append_grow (P := P) w t ty e i z ht hi hz ⟨g, 0, none⟩ n cap xs hown.1 holds a m c news hl hnews (by omega) (by omega) (growslice_fits (by omega) hbytes)
   rw [hr'] at hr
   cases hr
   exact .inr rfl

theorem wp_append_row {P : Program} {w : World} {o : Oper} {a : Act} {K : Act → World → Prop} {Q : Exit → Act → World → Prop} (s x : Operand) (t : TypeId)
  (ho : o.op = .call { callee := .builtin .append, args := #[s, x], argTypes := #[t, t] })
  (e : TypeId) (i : TypeInfo) (z : Value) (size bytes : Nat) (ht : P.underlying t = some (.slice e)) (hi : P.info? e = some i) (hz : i.zero = some z)
  (hsize : i.size = size) (hby : i.bytes = bytes) (hzs : z.cells.size = size) (hsz : 0 < size)
  (v : Value) (n : Nat) (xs : List Value) (hs : a.eval s = v) (hown : w.ownsRow 0 e size v n xs)
  (ad : Addr) (m c : Nat) (news : List Value) (hx : a.eval x = .slice (some ad) m c) (hl : news.length = m * size) (hnews : ∀ j u, news[j]? = some u → w.cell? (ad.add j) = some u) (h1 : ∀ u ∈ news, u.oneCell' = true)
  (h63 : n + m ≤ maxLen) (hbytes : (n + m) * bytes ≤ 140737488355328)
  (h : ∀ a' c' w', w'.ownsRow 0 e size (.slice a' (n + m) c') (n + m) (xs ++ news) → w.grownBy w' v.ownBlock → ((Value.slice a' (n + m) c').ownBlock = v.ownBlock ∨ (Value.slice a' (n + m) c').ownBlock = some w.heap.size) → K (a.put o.dst (.slice a' (n + m) c')) w') : o.wp P a w K Q := by
 obtain ⟨v', w', hr, h2, h3, h4, _⟩ := run_append_block (P := P) w t o.type e i z size bytes ht hi hz hsize hby hzs hsz v n xs hown ad m c news hl hnews h1 h63 hbytes
 obtain ⟨a', c', rfl⟩ := ownsRow_slice h2
 unfold Oper.wp execOp
 simp only [ho, resolve, invoke, builtin, Sem.run_bind, Sem.run_pure, Result.andThen_ok, List.map_toArray, List.map_cons, List.map_nil, hs, hx, hr]
 exact h a' c' w' h2 h3 h4
/-! ### 2. What a map's block holds -/

/-- Block b is a map that holds M q at each key q. -/
def MapIs {K : Type} (P : Program) (k : TypeId) (kenc : K → Value) (w : World) (b : Nat) (M : K → Option Value) : Prop :=
 ∃ es clock, w.heap[b]? = some (.map es clock) ∧ Stamped es clock ∧ (∀ x ∈ es.toList, ∃ q l, x.key = kenc q ∧ keyOf P k x.key = some l ∧ M q = some x.val) ∧
  (∀ q v, M q = some v → ∃ x ∈ es.toList, x.key = kenc q ∧ x.val = v)

section
variable {K : Type} {P : Program} {k : TypeId} {kenc : K → Value} {w : World} {b : Nat} {M : K → Option Value}

theorem MapIs.made (P : Program) (k : TypeId) (kenc : K → Value) (w : World) : MapIs P k kenc (w.alloc (.map #[] 0)) w.heap.size fun _ => none :=
 ⟨#[], 0, heap_alloc_same w _, stamped_empty 0, by simp, by simp⟩
theorem MapIs.lt (h : MapIs P k kenc w b M) : b < w.heap.size := by obtain ⟨es, c, h, _⟩ := h; exact lt_of_block h
theorem MapIs.chg {S : List Nat} {w' : World} (h : MapIs P k kenc w b M) (hc : Chg S w w') (hn : b ∉ S) : MapIs P k kenc w' b M := by
 obtain ⟨es, c, hb, r⟩ := h
 exact ⟨es, c, hc.heap hb hn, r⟩
theorem MapIs.congr (h : MapIs P k kenc w b M) {M' : K → Option Value} (he : ∀ q, M' q = M q) : MapIs P k kenc w b M' := by
 obtain rfl : M' = M := funext he
 exact h

/-- 'm[k]', 'v, ok := m[k]'. -/
theorem MapIs.look {t e : TypeId} (h : MapIs P k kenc w b M) (hinj : ∀ a b, kenc a = kenc b → a = b) (Ky : Maps.Keyed P k) (ht : P.underlying t = some (.map k e)) {z : Value} (hz : (zeroValue e).run P w = .ok z w) {q : K} {l : Lit} (hq : keyOf P k (kenc q) = some l) (c : Bool) :
  (Instr.lookup t (.map (some b)) (kenc q) c).run P w = .ok (if c then .tuple #[(M q).getD z, .bool (M q).isSome] else (M q).getD z) w := by
 obtain ⟨es, clock, hb, _, hall, hhas⟩ := h
 have hkeys : ∀ x ∈ es.toList, ∃ l, keyOf P k x.key = some l := fun x hx => by obtain ⟨_, l, _, hl, _⟩ := hall x hx; exact ⟨l, hl⟩
 rcases Ky.find w hq es.toList hkeys with ⟨h1, h2⟩ | ⟨j, e0, h1, h2, h3⟩
 ·have hM : M q = none := by
   cases hm : M q with
   | none => rfl
   | some v => obtain ⟨x, hx, hk, _⟩ := hhas q v hm; exact absurd hk (h2 x hx)
  simp [Instr.lookup, run_underlying ht, MapKept.run_getObj_map hb, Ky.check w _ hq, h1, hz, Result.andThen, hM]
 ·have hm0 : e0 ∈ es.toList := List.mem_of_getElem? h2
  obtain ⟨q', l', hk', _, hM'⟩ := hall e0 hm0
  obtain rfl : q' = q := hinj _ _ (hk'.symm.trans h3)
  simp [Instr.lookup, run_underlying ht, MapKept.run_getObj_map hb, Ky.check w _ hq, h1, Result.andThen, hM']

/-- 'm[k] = v'. -/
theorem MapIs.put {t e : TypeId} (h : MapIs P k kenc w b M) (hinj : ∀ a b, kenc a = kenc b → a = b) (Ky : Maps.Keyed P k) (ht : P.underlying t = some (.map k e)) [DecidableEq K] {q : K} {l : Lit} (hq : keyOf P k (kenc q) = some l) (val : Value) :
  ∃ w', (Instr.mapUpdate t (.map (some b)) (kenc q) val).run P w = .ok () w' ∧ MapIs P k kenc w' b (fun p => if p = q then some val else M p) ∧ Chg [b] w w' := by
 obtain ⟨es, clock, hb, hst, hall, hhas⟩ := h
 have hkeys : ∀ x ∈ es.toList, ∃ l, keyOf P k x.key = some l := fun x hx => by obtain ⟨_, l, _, hl, _⟩ := hall x hx; exact ⟨l, hl⟩
 have chg : ∀ o, Chg [b] w (ChangeMaps.setBlock w b o) := fun o => ⟨rfl, rfl, rfl, by simp [ChangeMaps.setBlock], fun i _ hi => ChangeMaps.heap_setBlock_other hb _ (fun e => hi (by simp [e]))⟩
 rcases Ky.find w hq es.toList hkeys with ⟨h1, h2⟩ | ⟨j, e0, h1, h2, h3⟩
 ·refine ⟨ChangeMaps.setBlock w b (.map (es.push ⟨kenc q, val, clock⟩) (clock + 1)), ?_, ⟨_, _, ChangeMaps.heap_setBlock_same hb _, stamped_push hst h2, ?_, ?_⟩, chg _⟩
  ·simp [Instr.mapUpdate, run_underlying ht, MapKept.run_getObj_map hb, Ky.check w false hq, h1, MapKept.run_setObj_map _ hb, Result.andThen, ChangeMaps.setBlock]
  ·intro x hx
   simp only [Array.toList_push, List.mem_append, List.mem_singleton] at hx
   rcases hx with hx | rfl
   ·obtain ⟨q', l', hk', hl', hM'⟩ := hall x hx
    exact ⟨q', l', hk', hl', by dsimp only; rw [if_neg (fun e => h2 x hx (by rw [hk', e]))]; exact hM'⟩
   ·exact ⟨q, l, rfl, hq, by simp⟩
  ·intro q' v hv
   by_cases hqq : q' = q
   ·subst hqq
    simp at hv
    subst hv
    exact ⟨⟨kenc q', val, clock⟩, by simp, rfl, rfl⟩
   ·simp only [if_neg hqq] at hv
    obtain ⟨x, hx, r⟩ := hhas q' v hv
    exact ⟨x, by simp; exact .inl (by simpa using hx), r⟩
 ·have hj : es[j]? = some e0 := by simpa using h2
  have hjl : j < es.toList.length := (List.getElem?_eq_some_iff.1 h2).1
  have hkeyf : ∀ e', es[j]? = some e' → ({ e' with key := kenc q, val := val } : MapEntry).key = e'.key := fun e' he' => by rw [hj] at he'; cases he'; exact h3.symm
  have hlist : (es.modify j (fun e' => { e' with key := kenc q, val := val })).toList = es.toList.set j { e0 with key := kenc q, val := val } := by rw [Array.toList_modify, ChangeMaps.modify_eq_set _ _ _ _ h2]
  have hnd : ∀ i x, es.toList[i]? = some x → i ≠ j → x.key ≠ kenc q := by
   intro i x hx hij e1
   have hil := (List.getElem?_eq_some_iff.1 hx).1
   have a1 : (es.toList.map (·.key))[i]? = some (kenc q) := by simp [List.getElem?_map, hx, e1]
   have a2 : (es.toList.map (·.key))[j]? = some (kenc q) := by simp [List.getElem?_map, h2, h3]
   exact hij ((List.getElem?_inj (by simpa using hil) hst.2.2).1 (a1.trans a2.symm))
  refine ⟨ChangeMaps.setBlock w b (.map (es.modify j (fun e' => { e' with key := kenc q, val := val })) clock), ?_, ⟨_, _, ChangeMaps.heap_setBlock_same hb _, stamped_modify hst _ _ (fun _ _ => rfl) (fun e' _ he' => hkeyf e' he'), ?_, ?_⟩, chg _⟩
  ·simp [Instr.mapUpdate, run_underlying ht, MapKept.run_getObj_map hb, Ky.check w false hq, h1, hj, h3, Ky.stays w hq, MapKept.run_setObj_map _ hb, Result.andThen, ChangeMaps.setBlock]
  ·intro x hx
   rw [hlist] at hx
   obtain ⟨i, hi⟩ := List.mem_iff_getElem?.1 hx
   by_cases hne : j = i
   ·subst hne
    rw [List.getElem?_set_self hjl] at hi
    simp only [Option.some.injEq] at hi
    subst hi
    exact ⟨q, l, rfl, hq, by simp⟩
   ·rw [List.getElem?_set_ne hne] at hi
    obtain ⟨q', l', hk', hl', hM'⟩ := hall x (List.mem_of_getElem? hi)
    exact ⟨q', l', hk', hl', by dsimp only; rw [if_neg (fun e => hnd i x hi (fun e => hne e.symm) (by rw [hk', e]))]; exact hM'⟩
  ·intro q' v hv
   rw [hlist]
   by_cases hqq : q' = q
   ·subst hqq
    simp at hv
    subst hv
    exact ⟨{ e0 with key := kenc q', val := val }, List.mem_iff_getElem?.2 ⟨j, List.getElem?_set_self hjl⟩, rfl, rfl⟩
   ·simp only [if_neg hqq] at hv
    obtain ⟨x, hx, hk, hval⟩ := hhas q' v hv
    obtain ⟨i, hi⟩ := List.mem_iff_getElem?.1 hx
    refine ⟨x, List.mem_iff_getElem?.2 ⟨i, ?_⟩, hk, hval⟩
    rw [List.getElem?_set_ne (fun e => ?_), hi]
    subst e
    rw [h2] at hi
    simp only [Option.some.injEq] at hi
    subst hi
    exact hqq (hinj _ _ (hk.symm.trans h3))

end
end Go.Proofs.YtlklmpjakeedcaaGreatDoor

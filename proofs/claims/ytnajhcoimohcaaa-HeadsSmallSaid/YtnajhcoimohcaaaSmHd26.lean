/-
  HeadsDoes: the two stacks side by side, told by their plain rows; what is kept besides.
  Conditions: none.
-/
import Derived.Test.YtnajhcoimohcaaaSmHs9
import Derived.Test.YtnajhcoimohcaaaSmHd16
import Derived.Test.YtnajhcoimohcaaaSmHd17
import Derived.Test.YtnajhcoimohcaaaSmHd19
import Derived.Test.YtnajhcoimohcaaaSmHd20
import Derived.Test.YtnajhcoimohcaaaSmHd24
import Derived.Test.YtnajhcoimohcaaaSmHd25
set_option linter.unusedVariables false
set_option linter.unusedSimpArgs false
set_option linter.unnecessarySimpa false
namespace Go.Proofs.Ytnajhcoimohcaaa
open Go.RowKit Go.MapKept

/-- The document's stack, all of it made since; none of its rows is the row NB. -/
def RP (NB b : Nat) (w : World) (B : Nat) (s : List Fm) : Prop := ∃ a c l, RefAt NB w B a c l ∧ rfs l = s ∧ ∀ k ∈ B :: fpR a c l.length, b ≤ k
/-- Of what was made since, at most the document's stack is another. -/
def ChgR (b : Nat) (w w' : World) : Prop := ∃ S, (∀ k ∈ S, b ≤ k ∧ ∃ cs t, w.heap[k]? = some (.cells cs t (0, 0)) ∧ (t = 53 ∨ t = 69)) ∧ Chg S w w'
theorem RefAt.fpKind {NB : Nat} {w : World} {B : Nat} {a : Option Addr} {c : Nat} {l : List Rf} (h : RefAt NB w B a c l) {k : Nat} (hk : k ∈ B :: fpR a c l.length) : ∃ cs t, w.heap[k]? = some (.cells cs t (0, 0)) ∧ (t = 53 ∨ t = 69) := by
  simp only [List.mem_cons, fpR, Option.mem_toList] at hk
  rcases hk with rfl | hk
  · exact ⟨_, _, h.top, .inl rfl⟩
  · obtain ⟨_, _, cur, hcur⟩ := row_beyond h.row hk
    exact ⟨_, _, hcur, .inr rfl⟩
theorem RefAt.chgK {NB b : Nat} {w w' : World} {B : Nat} {a : Option Addr} {c : Nat} {l : List Rf} (h : RefAt NB w B a c l) (hc : ChgK b w w') : RefAt NB w' B a c l :=
  ⟨hc.heap h.top (by decide) (by decide), hc.row h.row (by decide) (by decide), fun x hx => ⟨⟨hc.ints (h.rows x hx).1.1, (h.rows x hx).1.2⟩, ⟨hc.ints (h.rows x hx).2.1, (h.rows x hx).2.2⟩⟩, Nat.lt_of_lt_of_le h.ban hc.size⟩
theorem RP.chgK {NB b b' : Nat} {w w' : World} {B : Nat} {s : List Fm} (h : RP NB b w B s) (hc : ChgK b' w w') : RP NB b w' B s := by
  obtain ⟨a, c, l, h1, h2⟩ := h
  exact ⟨a, c, l, h1.chgK hc, h2⟩
theorem RP.chg0 {NB b : Nat} {w w' : World} {B : Nat} {s : List Fm} (h : RP NB b w B s) (hc : Chg [] w w') : RP NB b w' B s := by
  obtain ⟨a, c, l, h1, h2⟩ := h
  exact ⟨a, c, l, h1.chg0 hc, h2⟩
theorem ChgR.size {b : Nat} {w w' : World} (h : ChgR b w w') : w.heap.size ≤ w'.heap.size := by
  obtain ⟨S, h1, h2⟩ := h
  exact h2.size
theorem ChgR.heap {b : Nat} {w w' : World} (h : ChgR b w w') {k : Nat} {cs : Array Value} {t : TypeId} (hk : w.heap[k]? = some (.cells cs t (0, 0))) (n1 : t ≠ 53) (n2 : t ≠ 69) : w'.heap[k]? = some (.cells cs t (0, 0)) := by
  obtain ⟨S, h1, h2⟩ := h
  exact h2.heap hk (fun hm => by
    obtain ⟨_, cs', t', e, ht⟩ := h1 k hm
    rw [hk] at e
    simp only [Option.some.injEq, Obj.cells.injEq] at e
    obtain ⟨_, rfl, _⟩ := e
    rcases ht with e | e
    · exact n1 e
    · exact n2 e)
theorem ChgR.row {b : Nat} {w w' : World} (h : ChgR b w w') {base e size n : Nat} {v : Value} {xs : List Value} (hr : w.ownsRow base e size v n xs) (n1 : e ≠ 53) (n2 : e ≠ 69) : w'.ownsRow base e size v n xs := by
  obtain ⟨S, h1, h2⟩ := h
  refine h2.row hr (fun k hk hm => ?_)
  obtain ⟨_, _, cur, hcur⟩ := row_beyond hr hk
  obtain ⟨_, cs', t', e', ht⟩ := h1 k hm
  rw [hcur] at e'
  simp only [Option.some.injEq, Obj.cells.injEq] at e'
  obtain ⟨_, rfl, _⟩ := e'
  rcases ht with e | e
  · exact n1 e
  · exact n2 e
theorem StackAt.chgR {b : Nat} {w w' : World} {B : Nat} {a : Option Addr} {c : Nat} {l : List Fr} (h : StackAt w B a c l) (hc : ChgR b w w') : StackAt w' B a c l := by
  obtain ⟨S, h1, h2⟩ := hc
  refine h.chg h2 (fun x hx hm => ?_)
  obtain ⟨_, cs, t, ht, hk⟩ := h1 x hm
  rcases h.fpKind hx ht with rfl | rfl
  · rcases hk with e | e <;> exact absurd e (by decide)
  · rcases hk with e | e <;> exact absurd e (by decide)
theorem SP.chgR {b b' : Nat} {w w' : World} {B : Nat} {s : List Fm} (h : SP b w B s) (hc : ChgR b' w w') : SP b w' B s := by
  obtain ⟨a, c, l, h1, h2⟩ := h
  exact ⟨a, c, l, h1.chgR hc, h2⟩
theorem SP.wf {b : Nat} {w : World} {B : Nat} {s : List Fm} (h : SP b w B s) : ∀ f ∈ s, I64 f.rule ∧ I64 f.place := by
  obtain ⟨a, c, l, h1, rfl, h3⟩ := h
  intro f hf
  obtain ⟨x, hx, rfl⟩ := List.mem_map.1 hf
  exact h1.wf x hx
/-- A row made since is none of the document's. -/
theorem RP.off {NB N' b : Nat} {w w' : World} {B : Nat} {s : List Fm} (h : RP NB b w B s) (hc : Chg [] w w') (h1 : w.heap.size ≤ N') (h2 : N' < w'.heap.size) : RP N' b w' B s := by
  obtain ⟨a, c, l, g1, g2⟩ := h
  have key : ∀ {u : Option Addr} {k : Nat} {xs : List Int}, DocI NB w u k xs → DocI N' w' u k xs := fun {u k xs} hu =>
    ⟨hc.row hu.1 (fun _ _ => by simp), fun ad e1 e2 => by
      subst e1
      have := (row_beyond hu.1 (j := ad.block) rfl).2.1
      omega⟩
  exact ⟨a, c, l, ⟨hc.heap g1.top (by simp), hc.row g1.row (fun _ _ => by simp), fun x hx => ⟨key (g1.rows x hx).1, key (g1.rows x hx).2⟩, h2⟩, g2⟩
/-- The row NB may be written. -/
theorem RP.spoil {NB b : Nat} {w w' : World} {B : Nat} {s : List Fm} (h : RP NB b w B s) {cur : Array Value} (hN : w.heap[NB]? = some (.cells cur 3 (0, 0))) (hc : Chg [NB] w w') : RP NB b w' B s := by
  obtain ⟨a, c, l, g1, g2⟩ := h
  have key : ∀ {u : Option Addr} {k : Nat} {xs : List Int}, DocI NB w u k xs → DocI NB w' u k xs := fun {u k xs} hu =>
    ⟨hc.row hu.1 (fun j hj hm => by
      simp only [List.mem_singleton] at hm
      subst hm
      cases u with
      | none => simp [Value.ownBlock] at hj
      | some ad => exact hu.2 ad rfl (by simpa [Value.ownBlock] using hj)), hu.2⟩
  refine ⟨a, c, l, ⟨hc.heap g1.top (fun hm => ?_), hc.row g1.row (fun j hj hm => ?_), fun x hx => ⟨key (g1.rows x hx).1, key (g1.rows x hx).2⟩, Nat.lt_of_lt_of_le g1.ban hc.size⟩, g2⟩
  · simp only [List.mem_singleton] at hm
    subst hm
    rw [g1.top] at hN
    simp only [Option.some.injEq, Obj.cells.injEq] at hN
    exact absurd hN.2.1 (by decide)
  · simp only [List.mem_singleton] at hm
    subst hm
    obtain ⟨_, _, cu2, hcu2⟩ := row_beyond g1.row hj
    rw [hcu2] at hN
    simp only [Option.some.injEq, Obj.cells.injEq] at hN
    exact absurd hN.2.1 (by decide)
theorem SP.spoil {NB b : Nat} {w w' : World} {B : Nat} {s : List Fm} (h : SP b w B s) {cur : Array Value} (hN : w.heap[NB]? = some (.cells cur 3 (0, 0))) (hc : Chg [NB] w w') : SP b w' B s := by
  obtain ⟨a, c, l, g1, g2⟩ := h
  refine ⟨a, c, l, g1.chg hc (fun x hx hm => ?_), g2⟩
  simp only [List.mem_singleton] at hm
  subst hm
  rcases g1.fpKind hx hN with e | e <;> exact absurd e (by decide)

theorem opR_out {NB b : Nat} {w : World} {B : Nat} {a : Option Addr} {c : Nat} {l : List Rf} {r : List Fm × Int} (h : RefAt NB w B a c l) (hfp : ∀ k ∈ B :: fpR a c l.length, b ≤ k) (hb : b ≤ w.heap.size) {e : Ending} {w' : World} (ho : OpR NB w B a c l r e w') : e = .returned (.int .i64 r.2) ∧ RP NB b w' B r.1 ∧ ChgR b w w' := by
  obtain ⟨a', c', l', h1, h2, h3, h4, h5⟩ := ho
  refine ⟨h1, ⟨a', c', l', h2, h3, fun k hk => ?_⟩, ⟨_, fun k hk => ⟨hfp k hk, h.fpKind hk⟩, h4⟩⟩
  rcases List.mem_cons.1 hk with rfl | hk
  · exact hfp _ (by simp)
  · rcases h5 k hk with h | h
    · exact hfp k (by simp [h])
    · omega
theorem enterRP (NB b : Nat) (w : World) (B : Nat) (s : List Fm) (h : RP NB b w B s) (hb : b ≤ w.heap.size) {m : Nat} (hg : GoodS m s) (hm : m ≤ 200) (r p : Int) :
    Calls Try.prog 22 #[.pointer (some ⟨B, 0, none⟩), .int .i64 r, .int .i64 p] w fun e w' => e = .returned (.int .i64 (enterS s r p).2) ∧ RP NB b w' B (enterS s r p).1 ∧ ChgR b w w' := by
  obtain ⟨a, c, l, h1, rfl, h3⟩ := h
  exact (enterR_any w B a c l h1 (by have := hg.few; rw [rfs_len] at this; omega) (fun f hf => by have := hg.tch f hf; omega) r p).mono fun e w' h => opR_out h1 h3 hb h
theorem readRP (NB b : Nat) (w : World) (B : Nat) (s : List Fm) (h : RP NB b w B s) (hb : b ≤ w.heap.size) {m : Nat} (hg : GoodS m s) (hm : m ≤ 200) (r p : Int) :
    Calls Try.prog 24 #[.pointer (some ⟨B, 0, none⟩), .int .i64 r, .int .i64 p] w fun e w' => e = .returned (.int .i64 (readS s r p).2) ∧ RP NB b w' B (readS s r p).1 ∧ ChgR b w w' := by
  obtain ⟨a, c, l, h1, rfl, h3⟩ := h
  exact (readR_any w B a c l h1 (fun f hf => by have := hg.tch f hf; have := hg.inv f hf; have := hg.few; rw [rfs_len] at this; omega) r p).mono fun e w' h => opR_out h1 h3 hb h
theorem useRP (NB b : Nat) (w : World) (B : Nat) (s : List Fm) (h : RP NB b w B s) (hb : b ≤ w.heap.size) {m : Nat} (hg : GoodS m s) (hm : m ≤ 200) (p : Int) (ax : Option Addr) (k cx : Nat) (xs : List Int) (hk : k = xs.length) (hcx : k ≤ cx) (hcm : cx ≤ 9223372036854775807) (hx : Ints w ax xs) (hax : ∀ ad, ax = some ad → xs ≠ [] → ad.block < b) (hxs : xs.length ≤ 200) :
    Calls Try.prog 26 #[.pointer (some ⟨B, 0, none⟩), .int .i64 p, .slice ax k cx] w fun e w' => e = .returned (.int .i64 (useS s p xs).2) ∧ RP NB b w' B (useS s p xs).1 ∧ ChgR b w w' := by
  obtain ⟨a, c, l, h1, rfl, h3⟩ := h
  exact (useR_any w B a c l h1 p ax k cx xs hk hcx hcm hx (fun ad e1 e2 hm => by have := h3 _ (List.mem_cons_of_mem _ hm); have := hax ad e1 e2; omega) (fun f hf => by have := hg.tch f hf; omega)).mono fun e w' h => opR_out h1 h3 hb h
theorem leaveRP0 (NB b : Nat) (w : World) (B : Nat) (h : RP NB b w B []) :
    Calls Try.prog 28 #[.pointer (some ⟨B, 0, none⟩)] w (LeaveR0 w) := by
  obtain ⟨a, c, l, h1, h2, h3⟩ := h
  have e : l = [] := by simpa [rfs] using h2
  subst e
  exact leaveR_nil w B a c h1
theorem leaveRP (NB b : Nat) (w : World) (B : Nat) (s : List Fm) (h : RP NB b w B s) (n : Nat) (hn : n + 1 = s.length) (hn9 : n ≤ 1000000) (f : Fm) (hf : s[n]? = some f) :
    Calls Try.prog 28 #[.pointer (some ⟨B, 0, none⟩)] w fun e w' =>
      ∃ ra rn rc ia ik ic, e = .returned (.tuple #[.agg #[.int .i64 f.rule, .int .i64 f.place, .slice ra rn rc, .slice ia ik ic, .bool f.tnt], .int .i64 0]) ∧ rn = f.tch.length ∧ FreshInts 0 w' ra rc f.tch ∧ RP NB b w' B (s.take n) ∧ ChgR b w w' := by
  obtain ⟨a, c, l, h1, rfl, h3⟩ := h
  have hl : n + 1 = l.length := by rw [hn, rfs_len]
  have e : (l[n]'(by omega)).f = f := by
    simp only [rfs, List.getElem?_map, List.getElem?_eq_getElem (show n < l.length by omega), Option.map_some, Option.some.injEq] at hf
    exact hf
  refine (leaveR_any w B a c l h1 n hl hn9).mono fun e' w' h5 => ?_
  obtain ⟨g1, g2, g3, g4⟩ := h5
  rw [e] at g1 g3
  refine ⟨_, _, _, _, _, _, g1, rfl, g3, ⟨a, c, l.take n, g2, by simp [rfs, List.map_take], fun k hk => h3 k ?_⟩, ⟨_, fun k hk => ⟨h3 k ?_, h1.fpKind ?_⟩, g4⟩⟩
  · cases a <;> simpa [fpR, Value.ownBlock] using hk
  · simp only [List.mem_singleton] at hk; simp [hk]
  · simp only [List.mem_singleton] at hk; simp [hk]
theorem newRP (NB b : Nat) (w : World) (hb : b ≤ w.heap.size) (hN : NB < w.heap.size + 1) : RP NB b (w.alloc (.cells #[.slice none 0 0] 53)) w.heap.size [] :=
  ⟨none, 0, [], ⟨heap_alloc_same _ _, World.ownsRow_nil _ _ _ _, fun x hx => (by cases hx), by rw [World.size_alloc]; exact hN⟩, rfl, fun k hk => by simp [fpR, Value.ownBlock] at hk; omega⟩

/-! ### A stack and the one that was left for its copy -/
/-- Nothing of it lies between lo and hi. -/
def SPo (b lo hi : Nat) (w : World) (B : Nat) (s : List Fm) : Prop := ∃ a c l, StackAt w B a c l ∧ fms l = s ∧ ∀ k ∈ fpS B a c l, b ≤ k ∧ (k < lo ∨ hi ≤ k)
/-- All of it lies there. -/
def SPn (lo hi : Nat) (w : World) (B : Nat) (s : List Fm) : Prop := ∃ a c l, StackAt w B a c l ∧ fms l = s ∧ ∀ k ∈ fpS B a c l, lo ≤ k ∧ k < hi
def ChgO (b lo hi : Nat) (w w' : World) : Prop := ∃ S, (∀ k ∈ S, (b ≤ k ∧ (k < lo ∨ hi ≤ k)) ∧ ∀ cs t, w.heap[k]? = some (.cells cs t (0, 0)) → t = 78 ∨ t = 83) ∧ Chg S w w'
theorem ChgO.chgK {b lo hi : Nat} {w w' : World} (h : ChgO b lo hi w w') : ChgK b w w' := by
  obtain ⟨S, h1, h2⟩ := h
  exact ⟨S, fun k hk => ⟨(h1 k hk).1.1, (h1 k hk).2⟩, h2⟩
theorem SPn.chgO {b lo hi : Nat} {w w' : World} {B : Nat} {s : List Fm} (h : SPn lo hi w B s) (hc : ChgO b lo hi w w') : SPn lo hi w' B s := by
  obtain ⟨a, c, l, h1, h2, h3⟩ := h
  obtain ⟨S, k1, k2⟩ := hc
  exact ⟨a, c, l, h1.chg k2 (fun x hx hm => by have := h3 x hx; have := (k1 x hm).1; omega), h2, h3⟩
theorem SPn.chg0 {lo hi : Nat} {w w' : World} {B : Nat} {s : List Fm} (h : SPn lo hi w B s) (hc : Chg [] w w') : SPn lo hi w' B s := by
  obtain ⟨a, c, l, h1, h2⟩ := h
  exact ⟨a, c, l, h1.chg0 hc, h2⟩
theorem SPo.chg0 {b lo hi : Nat} {w w' : World} {B : Nat} {s : List Fm} (h : SPo b lo hi w B s) (hc : Chg [] w w') : SPo b lo hi w' B s := by
  obtain ⟨a, c, l, h1, h2⟩ := h
  exact ⟨a, c, l, h1.chg0 hc, h2⟩
theorem SPn.sp {b lo hi : Nat} {w : World} {B : Nat} {s : List Fm} (h : SPn lo hi w B s) (hb : b ≤ lo) : SP b w B s := by
  obtain ⟨a, c, l, h1, h2, h3⟩ := h
  exact ⟨a, c, l, h1, h2, fun k hk => by have := h3 k hk; omega⟩
theorem opO_out {b lo hi : Nat} {w : World} {B : Nat} {a : Option Addr} {c : Nat} {l : List Fr} {r : List Fm × Int} (h : StackAt w B a c l) (hfp : ∀ k ∈ fpS B a c l, b ≤ k ∧ (k < lo ∨ hi ≤ k)) (hb : b ≤ w.heap.size) (hh : hi ≤ w.heap.size) {e : Ending} {w' : World} (ho : OpP w B a c l r e w') : e = .returned (.int .i64 r.2) ∧ SPo b lo hi w' B r.1 ∧ ChgO b lo hi w w' := by
  obtain ⟨a', c', l', h1, h2, h3, h4, h5⟩ := ho
  refine ⟨h1, ⟨a', c', l', h2, h3, fun k hk => ?_⟩, ⟨_, fun k hk => ⟨hfp k hk, fun cs t ht => h.fpKind hk ht⟩, h4⟩⟩
  rcases h5 k hk with h | h
  · exact hfp k h
  · omega
theorem enterSO (b lo hi : Nat) (w : World) (B : Nat) (s : List Fm) (h : SPo b lo hi w B s) (hb : b ≤ w.heap.size) (hh : hi ≤ w.heap.size) (hl : s.length ≤ 1000000) (r p : Int) (hr : I64 r) (hp : I64 p) :
    Calls Try.prog 21 #[.pointer (some ⟨B, 0, none⟩), .int .i64 r, .int .i64 p] w fun e w' => e = .returned (.int .i64 (enterS s r p).2) ∧ SPo b lo hi w' B (enterS s r p).1 ∧ ChgO b lo hi w w' := by
  obtain ⟨a, c, l, h1, rfl, h3⟩ := h
  exact (enterS_any w B a c l h1 (by rwa [fms_len] at hl) r p hr hp).mono fun e w' h => opO_out h1 h3 hb hh h
theorem readSO (b lo hi : Nat) (w : World) (B : Nat) (s : List Fm) (h : SPo b lo hi w B s) (hb : b ≤ w.heap.size) (hh : hi ≤ w.heap.size) (r p : Int) (hr : I64 r) :
    Calls Try.prog 23 #[.pointer (some ⟨B, 0, none⟩), .int .i64 r, .int .i64 p] w fun e w' => e = .returned (.int .i64 (readS s r p).2) ∧ SPo b lo hi w' B (readS s r p).1 ∧ ChgO b lo hi w w' := by
  obtain ⟨a, c, l, h1, rfl, h3⟩ := h
  exact (readS_any w B a c l h1 r p hr).mono fun e w' h => opO_out h1 h3 hb hh h
theorem useSO (b lo hi : Nat) (w : World) (B : Nat) (s : List Fm) (h : SPo b lo hi w B s) (hb : b ≤ w.heap.size) (hh : hi ≤ w.heap.size) (p : Int) (ax : Option Addr) (m cx : Nat) (xs : List Int) (hm : m = xs.length) (hcx : m ≤ cx) (hcm : cx ≤ 9223372036854775807) (hx : Ints w ax xs) (hwf : ∀ z ∈ xs, I64 z) :
    Calls Try.prog 25 #[.pointer (some ⟨B, 0, none⟩), .int .i64 p, .slice ax m cx] w fun e w' => e = .returned (.int .i64 (useS s p xs).2) ∧ SPo b lo hi w' B (useS s p xs).1 ∧ ChgO b lo hi w w' := by
  obtain ⟨a, c, l, h1, rfl, h3⟩ := h
  exact (useS_any w B a c l h1 p ax m cx xs hm hcx hcm hx hwf).mono fun e w' h => opO_out h1 h3 hb hh h
theorem copySP (b : Nat) (w : World) (B : Nat) (s : List Fm) (h : SP b w B s) (hl : s.length ≤ 1000000) :
    Calls Try.prog 30 #[.pointer (some ⟨B, 0, none⟩)] w fun e w' => ∃ B', e = .returned (.pointer (some ⟨B', 0, none⟩)) ∧ SPo b w.heap.size w'.heap.size w' B s ∧ SPn w.heap.size w'.heap.size w' B' s ∧ Chg [] w w' := by
  obtain ⟨a, c, l, h1, rfl, h3⟩ := h
  refine (copyS_any w B a c l h1 (by rwa [fms_len] at hl)).mono fun e w' hp => ?_
  obtain ⟨B', a', c', l', g1, g2, g3, g4, g5⟩ := hp
  exact ⟨B', g1, ⟨a, c, l, h1.chg0 g5, rfl, fun k hk => ⟨h3 k hk, .inl (h1.fpLt hk)⟩⟩, ⟨a', c', l', g2, g3, fun k hk => ⟨g4 k hk, g2.fpLt hk⟩⟩, g5⟩

/-! ### What else is kept: the deed, its rules as they were lent, all that was there ahead -/
structure Env (w0 : World) (b D : Nat) (what rule place : Int) (tch : List Int) (ta : Option Addr) (tn tc S ib ic : Nat) (W : World) : Prop where
  tot : Chg [] w0 W
  big : b ≤ W.heap.size
  dd : W.heap[D]? = some (.cells #[.int .i64 what, .int .i64 rule, .int .i64 place, .slice ta tn tc] 55 (0, 0))
  row : W.ownsRow S 3 1 (.slice (some ⟨ib, 0, none⟩) (tch.length + 12) ic) (tch.length + 12) ((tch ++ marksI 12).map (Value.int .i64))
theorem Env.chg0 {w0 : World} {b D : Nat} {what rule place : Int} {tch : List Int} {ta : Option Addr} {tn tc S ib ic : Nat} {W W' : World} (h : Env w0 b D what rule place tch ta tn tc S ib ic W) (hc : Chg [] W W') : Env w0 b D what rule place tch ta tn tc S ib ic W' :=
  ⟨h.tot.tr hc, Nat.le_trans h.big hc.size, hc.heap h.dd (by simp), hc.row h.row (fun _ _ => by simp)⟩
theorem Env.chgK {w0 : World} {b D : Nat} {what rule place : Int} {tch : List Int} {ta : Option Addr} {tn tc S ib ic : Nat} {W W' : World} (h : Env w0 b D what rule place tch ta tn tc S ib ic W) (hb : w0.heap.size ≤ b) (hc : ChgK b W W') : Env w0 b D what rule place tch ta tn tc S ib ic W' := by
  refine ⟨?_, Nat.le_trans h.big hc.size, hc.heap h.dd (by decide) (by decide), hc.row h.row (by decide) (by decide)⟩
  obtain ⟨S', h1, h2⟩ := hc
  exact h.tot.trans h2 (fun j hj => .inr (by have := (h1 j hj).1; omega))
theorem Env.chgR {w0 : World} {b D : Nat} {what rule place : Int} {tch : List Int} {ta : Option Addr} {tn tc S ib ic : Nat} {W W' : World} (h : Env w0 b D what rule place tch ta tn tc S ib ic W) (hb : w0.heap.size ≤ b) (hc : ChgR b W W') : Env w0 b D what rule place tch ta tn tc S ib ic W' := by
  refine ⟨?_, Nat.le_trans h.big hc.size, hc.heap h.dd (by decide) (by decide), hc.row h.row (by decide) (by decide)⟩
  obtain ⟨S', h1, h2⟩ := hc
  exact h.tot.trans h2 (fun j hj => .inr (by have := (h1 j hj).1; omega))
theorem Env.lent {w0 : World} {b D : Nat} {what rule place : Int} {tch : List Int} {ta : Option Addr} {tn tc S ib ic : Nat} {W : World} (h : Env w0 b D what rule place tch ta tn tc S ib ic W) : Ints W (some ⟨ib, 0, none⟩) (tch ++ marksI 12) ∧ Ints W (some ⟨ib, 0, none⟩) tch ∧ tch.length + 12 ≤ ic ∧ ic ≤ 9223372036854775807 ∧ S ≤ ib ∧ ib < W.heap.size ∧ ∃ cur, W.heap[ib]? = some (.cells cur 3 (0, 0)) := by
  rcases h.row.2 with ⟨h0, _⟩ | ⟨g, cap, cur, h0, hb, hg, hn, hm, _⟩
  · cases h0
  · cases h0
    have key : ∀ i (hi : i < (tch ++ marksI 12).length), W.cell? ⟨ib, i, none⟩ = some (.int .i64 (tch ++ marksI 12)[i]) := fun i hi => by
      have hi2 : i < tch.length + 12 := by rw [List.length_append, marksI_len] at hi; exact hi
      rw [(row_put h.row (i := i) (by omega)).1, List.getElem?_map, List.getElem?_eq_getElem hi, Option.map_some]
    refine ⟨fun i hi => ⟨ib, 0, rfl, by simpa using key i hi⟩, fun i hi => ⟨ib, 0, rfl, ?_⟩, hn, by simp only [maxLen] at hm; exact hm, hb, lt_of_block hg, cur, hg⟩
    have h1 := key i (by rw [List.length_append]; omega)
    rw [List.getElem_append_left hi] at h1
    simpa using h1
end Go.Proofs.Ytnajhcoimohcaaa

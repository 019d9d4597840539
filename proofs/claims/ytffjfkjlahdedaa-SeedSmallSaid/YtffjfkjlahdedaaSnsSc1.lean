/-
  SeedDoes: the two stores side by side, told by their plain rows; what is kept besides.
  Conditions: none.
-/
import Derived.Test.YtffjfkjlahdedaaSnsSc0
import Derived.Test.YtffjfkjlahdedaaSnsSr2
import Derived.Test.YtffjfkjlahdedaaSnsSr3
import Derived.Test.YtffjfkjlahdedaaSnsSr4
set_option linter.unusedVariables false
set_option linter.unusedSimpArgs false
set_option linter.unnecessarySimpa false
namespace Go.Proofs.Ytffjfkjlahdedaa
open Go.RowKit Go.MapKept

def KS (w : World) (k : Nat) : Prop := (∃ es c, w.heap[k]? = some (.map es c)) ∨ ∃ cs t, w.heap[k]? = some (.cells cs t (0, 0)) ∧ (t = 68 ∨ t = 71)
def KR (w : World) (k : Nat) : Prop := ∃ cs t, w.heap[k]? = some (.cells cs t (0, 0)) ∧ (t = 52 ∨ t = 56)
theorem KS.not {w : World} {k : Nat} (h : KS w k) {e : TypeId} (h1 : e ≠ 68) (h2 : e ≠ 71) : NotRow w e k := by
  rcases h with ⟨es, c, h⟩ | ⟨cs, t, h, rfl | rfl⟩
  · exact .of_map h
  · exact .of_cells h (Ne.symm h1)
  · exact .of_cells h (Ne.symm h2)
theorem KR.not {w : World} {k : Nat} (h : KR w k) {e : TypeId} (h1 : e ≠ 52) (h2 : e ≠ 56) : NotRow w e k := by
  obtain ⟨cs, t, h, rfl | rfl⟩ := h
  · exact .of_cells h (Ne.symm h1)
  · exact .of_cells h (Ne.symm h2)
theorem KS.ne {w : World} {k j : Nat} (h : KS w k) {cs : Array Value} {t : TypeId} (hj : w.heap[j]? = some (.cells cs t (0, 0))) (h1 : t ≠ 68) (h2 : t ≠ 71) : j ≠ k := fun e => by
  subst e
  rcases h with ⟨es, c, h⟩ | ⟨cs', t', h, h3⟩
  · rw [hj] at h; simp at h
  · rw [hj] at h
    simp only [Option.some.injEq, Obj.cells.injEq] at h
    obtain ⟨_, rfl, _⟩ := h
    rcases h3 with e | e
    · exact h1 e
    · exact h2 e
theorem KR.ne {w : World} {k j : Nat} (h : KR w k) {cs : Array Value} {t : TypeId} (hj : w.heap[j]? = some (.cells cs t (0, 0))) (h1 : t ≠ 52) (h2 : t ≠ 56) : j ≠ k := fun e => by
  subst e
  obtain ⟨cs', t', h, h3⟩ := h
  rw [hj] at h
  simp only [Option.some.injEq, Obj.cells.injEq] at h
  obtain ⟨_, rfl, _⟩ := h
  rcases h3 with e | e
  · exact h1 e
  · exact h2 e
theorem KS_KR {w : World} {k : Nat} (h : KS w k) (h2 : KR w k) : False := by
  obtain ⟨cs, t, h3, h4⟩ := h2
  rcases h4 with rfl | rfl
  · exact h.ne h3 (by decide) (by decide) rfl
  · exact h.ne h3 (by decide) (by decide) rfl
theorem StoreAt.kind {NB : Nat} {w : World} {b m : Nat} {v : Value} {s : St} (h : StoreAt NB w b v m s) {k : Nat} (hk : k ∈ own b v m) : KS w k := by
  simp only [own, List.mem_cons, Option.mem_toList] at hk
  rcases hk with rfl | rfl | hk
  · exact .inr ⟨_, _, h.head, .inl rfl⟩
  · obtain ⟨M, hM, _⟩ := h.map
    exact .inl hM.block
  · obtain ⟨_, _, cur, hcur⟩ := row_beyond h.row hk
    exact .inr ⟨_, _, hcur, .inr rfl⟩
theorem RefS.kind {NB : Nat} {w : World} {B : Nat} {a : Option Addr} {c : Nat} {l : List Rs} (h : RefS NB w B a c l) {k : Nat} (hk : k ∈ B :: fpA a c l.length) : KR w k := by
  simp only [List.mem_cons, fpA, Option.mem_toList] at hk
  rcases hk with rfl | hk
  · exact ⟨_, _, h.top, .inl rfl⟩
  · obtain ⟨_, _, cur, hcur⟩ := row_beyond h.row hk
    exact ⟨_, _, hcur, .inr rfl⟩
theorem StoreAt.lt {NB : Nat} {w : World} {b m : Nat} {v : Value} {s : St} (h : StoreAt NB w b v m s) {k : Nat} (hk : k ∈ own b v m) : k < w.heap.size := by
  rcases h.kind hk with ⟨_, _, h⟩ | ⟨_, _, h, _⟩ <;> exact lt_of_block h
theorem StoreAt.chg {NB : Nat} {w w' : World} {S : List Nat} {b m : Nat} {v : Value} {s : St} (h : StoreAt NB w b v m s) (hc : Chg S w w') (hS : ∀ k ∈ own b v m, k ∉ S) (hT : ∀ k ∈ S, NotRow w 33 k) : StoreAt NB w' b v m s := by
  obtain ⟨M, hM, hg⟩ := h.map
  refine ⟨hc.heap h.head (hS b (by simp [own])), hc.row h.row (fun k hk => hS k (by simp [own, hk])), ⟨M, hM.chg hc (hS m (by simp [own])), fun q => ?_⟩, h.keys, h.wf, Nat.lt_of_lt_of_le h.ban hc.size⟩
  have := hg q
  cases hq : s.get q with
  | none => rw [hq] at this; exact this
  | some f =>
    rw [hq] at this
    obtain ⟨val, h1, h2⟩ := this
    exact ⟨val, h1, h2.keepS hc hT⟩
theorem RefS.chg {NB : Nat} {w w' : World} {S : List Nat} {B : Nat} {a : Option Addr} {c : Nat} {l : List Rs} (h : RefS NB w B a c l) (hc : Chg S w w') (hS : ∀ k ∈ B :: fpA a c l.length, k ∉ S) (hT : ∀ k ∈ S, NotRow w 33 k) : RefS NB w' B a c l :=
  ⟨hc.heap h.top (hS B (by simp)), hc.row h.row (fun k hk => hS k (by simp [fpA, hk])), fun z hz => (h.trees z hz).chg hc hT, Nat.lt_of_lt_of_le h.ban hc.size⟩
/-- The stores, all of them made since; no tree of theirs is the row NB. -/
def SQ (NB b : Nat) (w : World) (B : Nat) (s : St) : Prop := ∃ v m, StoreAt NB w B v m s ∧ ∀ k ∈ own B v m, b ≤ k
def RQ (NB b : Nat) (w : World) (B : Nat) (s : St) : Prop := ∃ a c l, RefS NB w B a c l ∧ rss l = s ∧ ∀ k ∈ B :: fpA a c l.length, b ≤ k
def ChgS (b : Nat) (w w' : World) : Prop := ∃ S, (∀ k ∈ S, b ≤ k ∧ KS w k) ∧ Chg S w w'
def ChgT (b : Nat) (w w' : World) : Prop := ∃ S, (∀ k ∈ S, b ≤ k ∧ KR w k) ∧ Chg S w w'
theorem ChgS.size {b : Nat} {w w' : World} (h : ChgS b w w') : w.heap.size ≤ w'.heap.size := by obtain ⟨S, _, h2⟩ := h; exact h2.size
theorem ChgT.size {b : Nat} {w w' : World} (h : ChgT b w w') : w.heap.size ≤ w'.heap.size := by obtain ⟨S, _, h2⟩ := h; exact h2.size
theorem RQ.chgS {NB b b' : Nat} {w w' : World} {B : Nat} {s : St} (h : RQ NB b w B s) (hc : ChgS b' w w') : RQ NB b w' B s := by
  obtain ⟨a, c, l, h1, h2⟩ := h
  obtain ⟨S, k1, k2⟩ := hc
  exact ⟨a, c, l, h1.chg k2 (fun k hk hm => KS_KR (k1 k hm).2 (h1.kind hk)) (fun k hk => (k1 k hk).2.not (by decide) (by decide)), h2⟩
theorem SQ.chgT {NB b b' : Nat} {w w' : World} {B : Nat} {s : St} (h : SQ NB b w B s) (hc : ChgT b' w w') : SQ NB b w' B s := by
  obtain ⟨v, m, h1, h2⟩ := h
  obtain ⟨S, k1, k2⟩ := hc
  exact ⟨v, m, h1.chg k2 (fun k hk hm => KS_KR (h1.kind hk) (k1 k hm).2) (fun k hk => (k1 k hk).2.not (by decide) (by decide)), h2⟩
theorem SQ.chg0 {NB b : Nat} {w w' : World} {B : Nat} {s : St} (h : SQ NB b w B s) (hc : Chg [] w w') : SQ NB b w' B s := by
  obtain ⟨v, m, h1, h2⟩ := h
  exact ⟨v, m, h1.keep hc, h2⟩
theorem RQ.chg0 {NB b : Nat} {w w' : World} {B : Nat} {s : St} (h : RQ NB b w B s) (hc : Chg [] w w') : RQ NB b w' B s := by
  obtain ⟨a, c, l, h1, h2⟩ := h
  exact ⟨a, c, l, h1.chg0 hc, h2⟩
theorem SQ.wf {NB b : Nat} {w : World} {B : Nat} {s : St} (h : SQ NB b w B s) : (∀ x ∈ s, I64 x.1.1 ∧ I64 x.1.2) ∧ (s.map (·.1)).Nodup := by
  obtain ⟨v, m, h1, h2⟩ := h
  exact ⟨h1.wf, h1.keys⟩
theorem treeN_off {NB N' : Nat} {w w' : World} {v : Value} {t : List Tw} (h : TreeN NB w v t) (hc : Chg [] w w') (h1 : w.heap.size ≤ N') : TreeN N' w' v t :=
  ⟨⟨hc.row h.1.1 (fun _ _ => by simp), h.1.2⟩, fun e => by have := (row_beyond h.1.1 e).2.1; omega⟩
theorem SQ.off {NB N' b : Nat} {w w' : World} {B : Nat} {s : St} (h : SQ NB b w B s) (hc : Chg [] w w') (h1 : w.heap.size ≤ N') (h2 : N' < w'.heap.size) : SQ N' b w' B s := by
  obtain ⟨v, m, g1, g2⟩ := h
  obtain ⟨M, hM, hg⟩ := g1.map
  refine ⟨v, m, ⟨hc.heap g1.head (by simp), hc.row g1.row (fun _ _ => by simp), ⟨M, hM.chg hc (by simp), fun q => ?_⟩, g1.keys, g1.wf, h2⟩, g2⟩
  have := hg q
  cases hq : s.get q with
  | none => rw [hq] at this; exact this
  | some f =>
    rw [hq] at this
    obtain ⟨val, k1, k2⟩ := this
    refine ⟨val, k1, ?_⟩
    cases f with
    | none => exact k2
    | some x => obtain ⟨e, l, t⟩ := x; obtain ⟨a, n, c, k3, k4⟩ := k2; exact ⟨a, n, c, k3, treeN_off k4 hc h1⟩
theorem RQ.off {NB N' b : Nat} {w w' : World} {B : Nat} {s : St} (h : RQ NB b w B s) (hc : Chg [] w w') (h1 : w.heap.size ≤ N') (h2 : N' < w'.heap.size) : RQ N' b w' B s := by
  obtain ⟨a, c, l, g1, g2⟩ := h
  exact ⟨a, c, l, ⟨hc.heap g1.top (by simp), hc.row g1.row (fun _ _ => by simp), fun z hz => treeN_off (g1.trees z hz) hc h1, h2⟩, g2⟩
/-- The row NB may be written. -/
theorem treeN_spoil {NB : Nat} {w w' : World} {v : Value} {t : List Tw} (h : TreeN NB w v t) (hc : Chg [NB] w w') : TreeN NB w' v t :=
  ⟨⟨hc.row h.1.1 (fun k hk hm => by simp only [List.mem_singleton] at hm; subst hm; exact h.2 hk), h.1.2⟩, h.2⟩
theorem SQ.spoil {NB b : Nat} {w w' : World} {B : Nat} {s : St} (h : SQ NB b w B s) {cur : Array Value} (hN : w.heap[NB]? = some (.cells cur 33 (0, 0))) (hc : Chg [NB] w w') : SQ NB b w' B s := by
  obtain ⟨v, m, g1, g2⟩ := h
  have hS : ∀ k ∈ own B v m, k ∉ [NB] := fun k hk hm => by
    simp only [List.mem_singleton] at hm
    exact (g1.kind hk).ne hN (by decide) (by decide) hm.symm
  obtain ⟨M, hM, hg⟩ := g1.map
  refine ⟨v, m, ⟨hc.heap g1.head (hS B (by simp [own])), hc.row g1.row (fun k hk => hS k (by simp [own, hk])), ⟨M, hM.chg hc (hS m (by simp [own])), fun q => ?_⟩, g1.keys, g1.wf, Nat.lt_of_lt_of_le g1.ban hc.size⟩, g2⟩
  have := hg q
  cases hq : s.get q with
  | none => rw [hq] at this; exact this
  | some f =>
    rw [hq] at this
    obtain ⟨val, k1, k2⟩ := this
    refine ⟨val, k1, ?_⟩
    cases f with
    | none => exact k2
    | some x => obtain ⟨e, l, t⟩ := x; obtain ⟨a, n, c, k3, k4⟩ := k2; exact ⟨a, n, c, k3, treeN_spoil k4 hc⟩
theorem RQ.spoil {NB b : Nat} {w w' : World} {B : Nat} {s : St} (h : RQ NB b w B s) {cur : Array Value} (hN : w.heap[NB]? = some (.cells cur 33 (0, 0))) (hc : Chg [NB] w w') : RQ NB b w' B s := by
  obtain ⟨a, c, l, g1, g2⟩ := h
  have hS : ∀ k ∈ B :: fpA a c l.length, k ∉ [NB] := fun k hk hm => by
    simp only [List.mem_singleton] at hm
    exact (g1.kind hk).ne hN (by decide) (by decide) hm.symm
  exact ⟨a, c, l, ⟨hc.heap g1.top (hS B (by simp)), hc.row g1.row (fun k hk => hS k (by simp [fpA, hk])), fun z hz => treeN_spoil (g1.trees z hz) hc, Nat.lt_of_lt_of_le g1.ban hc.size⟩, g2⟩

/-! ### What is done to them -/
theorem chgS_of {NB b : Nat} {w w' : World} {B m : Nat} {v : Value} {s : St} (h : StoreAt NB w B v m s) (hfp : ∀ k ∈ own B v m, b ≤ k) (hc : Chg (own B v m) w w') : ChgS b w w' := ⟨_, fun k hk => ⟨hfp k hk, h.kind hk⟩, hc⟩
theorem beginSQ (NB b : Nat) (w : World) (B : Nat) (s : St) (h : SQ NB b w B s) (hb : b ≤ w.heap.size) (hs : s.length ≤ 1000000) (r p : Int) (hr : I64 r) (hp : I64 p) :
    Calls Try.prog 9 #[.pointer (some ⟨B, 0, none⟩), .int .i64 r, .int .i64 p] w fun e w' => e = .returned (.int .i64 (if (r, p) ∈ s.map (·.1) then 8 else 0)) ∧ SQ NB b w' B (if (r, p) ∈ s.map (·.1) then s else s ++ [((r, p), none)]) ∧ ChgS b w w' := by
  obtain ⟨v, m, h1, h2⟩ := h
  refine (begin_any w B m v s (r, p) h1 hr hp (by omega)).mono fun e w' hp => ?_
  obtain ⟨v', g1, g2, g3, g4⟩ := hp
  refine ⟨g1, ⟨v', m, g2, fun k hk => ?_⟩, chgS_of h1 h2 g3⟩
  simp only [own, List.mem_cons, Option.mem_toList] at hk
  rcases hk with rfl | rfl | hk
  · exact h2 _ (by simp [own])
  · exact h2 _ (by simp [own])
  · rcases g4 k hk with h | h
    · exact h2 k (by simp [own, h])
    · omega
theorem growSQ (NB b : Nat) (w : World) (B : Nat) (s : St) (h : SQ NB b w B s) (hs : s.length ≤ 1000000) (e l : Int) (a : Option Addr) (n c : Nat) (t : List Tw) (ht : Tree w (.slice a n c) t) :
    Calls Try.prog 11 #[.pointer (some ⟨B, 0, none⟩), .agg #[.int .i64 e, .int .i64 l, .slice a n c]] w fun r w' => r = .returned (.int .i64 (s.growErr e l)) ∧ SQ NB b w' B (s.grow e l t) ∧ ChgS b w w' := by
  obtain ⟨v, m, h1, h2⟩ := h
  exact (grow_any w B m v s e l a n c t h1 ht (by omega)).mono fun r w' hp => ⟨hp.1, ⟨v, m, hp.2.1, h2⟩, chgS_of h1 h2 hp.2.2⟩
theorem endSQ (NB b : Nat) (w : World) (B : Nat) (s : St) (h : SQ NB b w B s) (hs : s.length ≤ 1000000) :
    Calls Try.prog 16 #[.pointer (some ⟨B, 0, none⟩)] w fun r w' => r = .returned (.int .i64 (if s = [] then 5 else 0)) ∧ SQ NB b w' B s.dropLast ∧ ChgS b w w' := by
  obtain ⟨v, m, h1, h2⟩ := h
  refine (End_any w B m v s h1 (by omega)).mono fun r w' hp => ?_
  obtain ⟨v', g1, g2, g3, g4⟩ := hp
  exact ⟨g1, ⟨v', m, g2, fun k hk => by unfold own at hk h2; rw [g4] at hk; exact h2 k hk⟩, chgS_of h1 h2 g3⟩
theorem opS_out {NB b : Nat} {w : World} {B : Nat} {a : Option Addr} {c : Nat} {l : List Rs} {s' : St} {no : Int} (h : RefS NB w B a c l) (hfp : ∀ k ∈ B :: fpA a c l.length, b ≤ k) (hb : b ≤ w.heap.size) {e : Ending} {w' : World} (ho : OpS NB w B a c l s' no e w') : e = .returned (.int .i64 no) ∧ RQ NB b w' B s' ∧ ChgT b w w' := by
  obtain ⟨a', c', l', h1, h2, h3, h4, h5⟩ := ho
  refine ⟨h1, ⟨a', c', l', h2, h3, fun k hk => ?_⟩, ⟨_, fun k hk => ⟨hfp k hk, h.kind hk⟩, h4⟩⟩
  rcases List.mem_cons.1 hk with rfl | hk
  · exact hfp _ (by simp)
  · rcases h5 k hk with h | h
    · exact hfp k (by simp [h])
    · omega
theorem beginRQ (NB b : Nat) (w : World) (B : Nat) (s : St) (h : RQ NB b w B s) (hb : b ≤ w.heap.size) (hs : s.length ≤ 1000000) (r p : Int) :
    Calls Try.prog 19 #[.pointer (some ⟨B, 0, none⟩), .int .i64 r, .int .i64 p] w fun e w' => e = .returned (.int .i64 (if (r, p) ∈ s.map (·.1) then 8 else 0)) ∧ RQ NB b w' B (if (r, p) ∈ s.map (·.1) then s else s ++ [((r, p), none)]) ∧ ChgT b w w' := by
  obtain ⟨a, c, l, h1, rfl, h3⟩ := h
  exact (beginR_any w B a c l h1 (by rwa [rss_len] at hs) (r, p)).mono fun e w' h => opS_out h1 h3 hb h
theorem growRQ (NB b : Nat) (w : World) (B : Nat) (s : St) (h : RQ NB b w B s) (hb : b ≤ w.heap.size) (hs : s.length ≤ 1000000) (e lv : Int) (ta : Option Addr) (tn tc : Nat) (t : List Tw) (htn : tn = t.length) (hnone : ta = none → tn = 0 ∧ tc = 0) (ht : Twigs w ta t) (hts : tn ≤ 1000000) :
    Calls Try.prog 20 #[.pointer (some ⟨B, 0, none⟩), .int .i64 e, .int .i64 lv, .slice ta tn tc] w fun r w' => r = .returned (.int .i64 (s.growErr e lv)) ∧ RQ NB b w' B (s.grow e lv t) ∧ ChgT b w w' := by
  obtain ⟨a, c, l, h1, rfl, h3⟩ := h
  exact (growR_any w B a c l h1 (by rwa [rss_len] at hs) e lv ta tn tc t htn hnone ht hts).mono fun e w' h => opS_out h1 h3 hb h
theorem endRQ (NB b : Nat) (w : World) (B : Nat) (s : St) (h : RQ NB b w B s) (hb : b ≤ w.heap.size) (hs : s.length ≤ 1000000) :
    Calls Try.prog 21 #[.pointer (some ⟨B, 0, none⟩)] w fun r w' => r = .returned (.int .i64 (if s = [] then 5 else 0)) ∧ RQ NB b w' B s.dropLast ∧ ChgT b w w' := by
  obtain ⟨a, c, l, h1, rfl, h3⟩ := h
  exact (endR_any w B a c l h1 (by rwa [rss_len] at hs)).mono fun e w' h => opS_out h1 h3 hb h
theorem newRQ (NB b : Nat) (w : World) (hb : b ≤ w.heap.size) (hN : NB < w.heap.size + 1) : RQ NB b (w.alloc (.cells #[.slice none 0 0] 52)) w.heap.size [] :=
  ⟨none, 0, [], ⟨heap_alloc_same _ _, World.ownsRow_nil _ _ _ _, fun x hx => (by cases hx), by rw [World.size_alloc]; exact hN⟩, rfl, fun k hk => by simp [fpA, Value.ownBlock] at hk; omega⟩

/-! ### A store and the one that was left for its copy -/
def SQo (NB b lo hi : Nat) (w : World) (B : Nat) (s : St) : Prop := ∃ v m, StoreAt NB w B v m s ∧ ∀ k ∈ own B v m, b ≤ k ∧ (k < lo ∨ hi ≤ k)
def SQn (NB lo hi : Nat) (w : World) (B : Nat) (s : St) : Prop := ∃ v m, StoreAt NB w B v m s ∧ ∀ k ∈ own B v m, lo ≤ k ∧ k < hi
def ChgO (b lo hi : Nat) (w w' : World) : Prop := ∃ S, (∀ k ∈ S, (b ≤ k ∧ (k < lo ∨ hi ≤ k)) ∧ KS w k) ∧ Chg S w w'
theorem ChgO.chgS {b lo hi : Nat} {w w' : World} (h : ChgO b lo hi w w') : ChgS b w w' := by
  obtain ⟨S, h1, h2⟩ := h
  exact ⟨S, fun k hk => ⟨(h1 k hk).1.1, (h1 k hk).2⟩, h2⟩
theorem SQn.chgO {NB b lo hi : Nat} {w w' : World} {B : Nat} {s : St} (h : SQn NB lo hi w B s) (hc : ChgO b lo hi w w') : SQn NB lo hi w' B s := by
  obtain ⟨v, m, h1, h3⟩ := h
  obtain ⟨S, k1, k2⟩ := hc
  exact ⟨v, m, h1.chg k2 (fun x hx hm => by have := h3 x hx; have := (k1 x hm).1; omega) (fun k hk => (k1 k hk).2.not (by decide) (by decide)), h3⟩
theorem SQn.sq {NB b lo hi : Nat} {w : World} {B : Nat} {s : St} (h : SQn NB lo hi w B s) (hb : b ≤ lo) : SQ NB b w B s := by
  obtain ⟨v, m, h1, h3⟩ := h
  exact ⟨v, m, h1, fun k hk => by have := h3 k hk; omega⟩
theorem chgO_of {NB b lo hi : Nat} {w w' : World} {B m : Nat} {v : Value} {s : St} (h : StoreAt NB w B v m s) (hfp : ∀ k ∈ own B v m, b ≤ k ∧ (k < lo ∨ hi ≤ k)) (hc : Chg (own B v m) w w') : ChgO b lo hi w w' := ⟨_, fun k hk => ⟨hfp k hk, h.kind hk⟩, hc⟩
theorem beginSO (NB b lo hi : Nat) (w : World) (B : Nat) (s : St) (h : SQo NB b lo hi w B s) (hb : b ≤ w.heap.size) (hh : hi ≤ w.heap.size) (hs : s.length ≤ 1000000) (r p : Int) (hr : I64 r) (hp : I64 p) :
    Calls Try.prog 9 #[.pointer (some ⟨B, 0, none⟩), .int .i64 r, .int .i64 p] w fun e w' => e = .returned (.int .i64 (if (r, p) ∈ s.map (·.1) then 8 else 0)) ∧ ChgO b lo hi w w' := by
  obtain ⟨v, m, h1, h2⟩ := h
  refine (begin_any w B m v s (r, p) h1 hr hp (by omega)).mono fun e w' hp => ?_
  obtain ⟨v', g1, g2, g3, g4⟩ := hp
  exact ⟨g1, chgO_of h1 h2 g3⟩
theorem growSO (NB b lo hi : Nat) (w : World) (B : Nat) (s : St) (h : SQo NB b lo hi w B s) (hs : s.length ≤ 1000000) (e l : Int) (a : Option Addr) (n c : Nat) (t : List Tw) (ht : Tree w (.slice a n c) t) :
    Calls Try.prog 11 #[.pointer (some ⟨B, 0, none⟩), .agg #[.int .i64 e, .int .i64 l, .slice a n c]] w fun r w' => r = .returned (.int .i64 (s.growErr e l)) ∧ SQo NB b lo hi w' B (s.grow e l t) ∧ ChgO b lo hi w w' := by
  obtain ⟨v, m, h1, h2⟩ := h
  exact (grow_any w B m v s e l a n c t h1 ht (by omega)).mono fun r w' hp => ⟨hp.1, ⟨v, m, hp.2.1, h2⟩, chgO_of h1 h2 hp.2.2⟩
theorem endSO (NB b lo hi : Nat) (w : World) (B : Nat) (s : St) (h : SQo NB b lo hi w B s) (hs : s.length ≤ 1000000) :
    Calls Try.prog 16 #[.pointer (some ⟨B, 0, none⟩)] w fun r w' => r = .returned (.int .i64 (if s = [] then 5 else 0)) ∧ SQo NB b lo hi w' B s.dropLast ∧ ChgO b lo hi w w' := by
  obtain ⟨v, m, h1, h2⟩ := h
  refine (End_any w B m v s h1 (by omega)).mono fun r w' hp => ?_
  obtain ⟨v', g1, g2, g3, g4⟩ := hp
  exact ⟨g1, ⟨v', m, g2, fun k hk => by unfold own at hk h2; rw [g4] at hk; exact h2 k hk⟩, chgO_of h1 h2 g3⟩
theorem copySQ (NB b : Nat) (w : World) (B : Nat) (s : St) (h : SQ NB b w B s) (hs : s.length ≤ 1000000) :
    Calls Try.prog 22 #[.pointer (some ⟨B, 0, none⟩)] w fun e w' => ∃ B', e = .returned (.pointer (some ⟨B', 0, none⟩)) ∧ SQo NB b w.heap.size w'.heap.size w' B s ∧ SQn NB w.heap.size w'.heap.size w' B' s ∧ Chg [] w w' := by
  obtain ⟨v, m, h1, h2⟩ := h
  refine (copy_any w B m v s h1 hs).mono fun e w' hp => ?_
  obtain ⟨B', v', m', g1, g2, g3, g4⟩ := hp
  exact ⟨B', g1, ⟨v, m, h1.keep g4, fun k hk => ⟨h2 k hk, .inl (h1.lt hk)⟩⟩, ⟨v', m', g2, fun k hk => ⟨g3 k hk, g2.lt hk⟩⟩, g4⟩

/-! ### What else is kept: the deed, its tree as it was lent, all that was there ahead -/
structure EnvT (w0 : World) (b D : Nat) (what rule place en lv : Int) (t : List Tw) (ta : Option Addr) (tn tc S ib ic : Nat) (W : World) : Prop where
  tot : Chg [] w0 W
  big : b ≤ W.heap.size
  dd : W.heap[D]? = some (.cells #[.int .i64 what, .int .i64 rule, .int .i64 place, .int .i64 en, .int .i64 lv, .slice ta tn tc] 54 (0, 0))
  row : W.ownsRow S 33 5 (.slice (some ⟨ib, 0, none⟩) (t.length + 12) ic) (t.length + 12) (twCells (t ++ marksT 12))
theorem EnvT.chg0 {w0 : World} {b D : Nat} {what rule place en lv : Int} {t : List Tw} {ta : Option Addr} {tn tc S ib ic : Nat} {W W' : World} (h : EnvT w0 b D what rule place en lv t ta tn tc S ib ic W) (hc : Chg [] W W') : EnvT w0 b D what rule place en lv t ta tn tc S ib ic W' :=
  ⟨h.tot.tr hc, Nat.le_trans h.big hc.size, hc.heap h.dd (by simp), hc.row h.row (fun _ _ => by simp)⟩
theorem EnvT.chgS {w0 : World} {b D : Nat} {what rule place en lv : Int} {t : List Tw} {ta : Option Addr} {tn tc S ib ic : Nat} {W W' : World} (h : EnvT w0 b D what rule place en lv t ta tn tc S ib ic W) (hb : w0.heap.size ≤ b) (hc : ChgS b W W') : EnvT w0 b D what rule place en lv t ta tn tc S ib ic W' := by
  obtain ⟨S', h1, h2⟩ := hc
  exact ⟨h.tot.trans h2 (fun j hj => .inr (by have := (h1 j hj).1; omega)), Nat.le_trans h.big h2.size, h2.heap h.dd (fun hm => (h1 _ hm).2.ne h.dd (by decide) (by decide) rfl), h2.rowOf h.row (fun k hk => (h1 k hk).2.not (by decide) (by decide))⟩
theorem EnvT.chgT {w0 : World} {b D : Nat} {what rule place en lv : Int} {t : List Tw} {ta : Option Addr} {tn tc S ib ic : Nat} {W W' : World} (h : EnvT w0 b D what rule place en lv t ta tn tc S ib ic W) (hb : w0.heap.size ≤ b) (hc : ChgT b W W') : EnvT w0 b D what rule place en lv t ta tn tc S ib ic W' := by
  obtain ⟨S', h1, h2⟩ := hc
  exact ⟨h.tot.trans h2 (fun j hj => .inr (by have := (h1 j hj).1; omega)), Nat.le_trans h.big h2.size, h2.heap h.dd (fun hm => (h1 _ hm).2.ne h.dd (by decide) (by decide) rfl), h2.rowOf h.row (fun k hk => (h1 k hk).2.not (by decide) (by decide))⟩
theorem EnvT.lent {w0 : World} {b D : Nat} {what rule place en lv : Int} {t : List Tw} {ta : Option Addr} {tn tc S ib ic : Nat} {W : World} (h : EnvT w0 b D what rule place en lv t ta tn tc S ib ic W) (hts : t.length ≤ 1000000) :
    Twigs W (some ⟨ib, 0, none⟩) (t ++ marksT 12) ∧ Tree W (.slice (some ⟨ib, 0, none⟩) t.length ic) t ∧ t.length + 12 ≤ ic ∧ ic ≤ 9223372036854775807 ∧ S ≤ ib ∧ ib < W.heap.size ∧ ∃ cur, W.heap[ib]? = some (.cells cur 33 (0, 0)) := by
  rcases h.row.2 with ⟨h0, _⟩ | ⟨g, cap, cur, h0, hb, hg, hn, hm, _⟩
  · cases h0
  · cases h0
    have hr := h.row
    have hr2 : W.ownsRow S 33 5 (.slice (some ⟨ib, 0, none⟩) (t ++ marksT 12).length ic) (t ++ marksT 12).length (twCells (t ++ marksT 12)) := by
      rw [List.length_append, marksT_len]; exact hr
    have ht := row_take hr (m := t.length) (by omega) (by simp)
    have e1 : (twCells (t ++ marksT 12)).take (t.length * 5) = twCells t := by
      rw [twCells_append, List.take_left' (twCells_length t)]
    rw [e1] at ht
    exact ⟨twigs_row hr2, ⟨row_baseS ht (Nat.zero_le _), by omega⟩, hn, by simp only [maxLen] at hm; exact hm, hb, lt_of_block hg, cur, hg⟩
end Go.Proofs.Ytffjfkjlahdedaa

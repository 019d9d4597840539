/-
  A stack and all that is done to it, told by what it holds; the chapter's example.
  Conditions: none.
-/
import Derived.Test.YtnajhcoimohcaaaSmHs8
import Derived.Test.YtnajhcoimohcaaaSmGKit
set_option linter.unusedVariables false
set_option linter.unusedSimpArgs false
set_option linter.unnecessarySimpa false
namespace Go.Proofs.Ytnajhcoimohcaaa
open Go.RowKit Go.MapKept

/-- A stack, all of it made since. -/
def SP (b : Nat) (w : World) (B : Nat) (s : List Fm) : Prop := ∃ a c l, StackAt w B a c l ∧ fms l = s ∧ ∀ k ∈ fpS B a c l, b ≤ k
/-- Of what was, at most a stack is another. -/
def ChgK (b : Nat) (w w' : World) : Prop := ∃ S, (∀ k ∈ S, b ≤ k ∧ ∀ cs t, w.heap[k]? = some (.cells cs t (0, 0)) → t = 78 ∨ t = 83) ∧ Chg S w w'
theorem ChgK.of0 {b : Nat} {w w' : World} (h : Chg [] w w') : ChgK b w w' := ⟨[], by simp, h⟩
theorem ChgK.chgB {b : Nat} {w w' : World} (h : ChgK b w w') : ChgB b w w' := by
  obtain ⟨S, h1, h2⟩ := h
  exact ⟨S, fun k hk => ⟨(h1 k hk).1, fun cs t ht => by rcases (h1 k hk).2 cs t ht with rfl | rfl <;> exact ⟨by decide, by decide⟩⟩, h2⟩
theorem ChgK.size {b : Nat} {w w' : World} (h : ChgK b w w') : w.heap.size ≤ w'.heap.size := h.chgB.size
theorem ChgK.heap {b : Nat} {w w' : World} (h : ChgK b w w') {k : Nat} {cs : Array Value} {t : TypeId} (hk : w.heap[k]? = some (.cells cs t (0, 0))) (n1 : t ≠ 78) (n2 : t ≠ 83) : w'.heap[k]? = some (.cells cs t (0, 0)) := by
  obtain ⟨S, h1, h2⟩ := h
  exact h2.heap hk (fun hm => by
    rcases (h1 k hm).2 _ _ hk with e | e
    · exact n1 e
    · exact n2 e)
theorem ChgK.row {b : Nat} {w w' : World} (h : ChgK b w w') {base e size n : Nat} {v : Value} {xs : List Value} (hr : w.ownsRow base e size v n xs) (n1 : e ≠ 78) (n2 : e ≠ 83) : w'.ownsRow base e size v n xs := by
  obtain ⟨S, h1, h2⟩ := h
  refine h2.row hr (fun k hk hm => ?_)
  obtain ⟨_, _, cur, hcur⟩ := row_beyond hr hk
  rcases (h1 k hm).2 _ _ hcur with e | e
  · exact n1 e
  · exact n2 e
theorem ChgK.ints {b : Nat} {w w' : World} (h : ChgK b w w') {base : Nat} {a : Option Addr} {c : Nat} {zs : List Int} (hr : FreshInts base w a c zs) : FreshInts base w' a c zs := h.row hr (by decide) (by decide)
theorem ChgK.tr0 {b : Nat} {u v w : World} (h : ChgK b u v) (k : Chg [] v w) : ChgK b u w := by
  obtain ⟨S, h1, h2⟩ := h
  exact ⟨S, h1, h2.tr0 k⟩
theorem SP.chg0 {b : Nat} {w w' : World} {B : Nat} {s : List Fm} (h : SP b w B s) (hc : Chg [] w w') : SP b w' B s := by
  obtain ⟨a, c, l, h1, h2⟩ := h
  exact ⟨a, c, l, h1.chg0 hc, h2⟩
theorem chgK_of {b : Nat} {w w' : World} {B : Nat} {a : Option Addr} {c : Nat} {l : List Fr} (h : StackAt w B a c l) (hfp : ∀ k ∈ fpS B a c l, b ≤ k) (hc : Chg (fpS B a c l) w w') : ChgK b w w' :=
  ⟨_, fun k hk => ⟨hfp k hk, fun cs t ht => h.fpKind hk ht⟩, hc⟩
theorem opP_out {b : Nat} {w : World} {B : Nat} {a : Option Addr} {c : Nat} {l : List Fr} {r : List Fm × Int} (h : StackAt w B a c l) (hfp : ∀ k ∈ fpS B a c l, b ≤ k) (hb : b ≤ w.heap.size) {e : Ending} {w' : World} (ho : OpP w B a c l r e w') : e = .returned (.int .i64 r.2) ∧ SP b w' B r.1 ∧ ChgK b w w' := by
  obtain ⟨a', c', l', h1, h2, h3, h4, h5⟩ := ho
  refine ⟨h1, ⟨a', c', l', h2, h3, fun k hk => ?_⟩, chgK_of h hfp h4⟩
  rcases h5 k hk with h | h
  · exact hfp k h
  · omega
theorem enterSP (b : Nat) (w : World) (B : Nat) (s : List Fm) (h : SP b w B s) (hb : b ≤ w.heap.size) (hl : s.length ≤ 1000000) (r p : Int) (hr : I64 r) (hp : I64 p) :
    Calls Try.prog 21 #[.pointer (some ⟨B, 0, none⟩), .int .i64 r, .int .i64 p] w fun e w' => e = .returned (.int .i64 (enterS s r p).2) ∧ SP b w' B (enterS s r p).1 ∧ ChgK b w w' := by
  obtain ⟨a, c, l, h1, rfl, h3⟩ := h
  exact (enterS_any w B a c l h1 (by rwa [fms_len] at hl) r p hr hp).mono fun e w' h => opP_out h1 h3 hb h
theorem readSP (b : Nat) (w : World) (B : Nat) (s : List Fm) (h : SP b w B s) (hb : b ≤ w.heap.size) (r p : Int) (hr : I64 r) :
    Calls Try.prog 23 #[.pointer (some ⟨B, 0, none⟩), .int .i64 r, .int .i64 p] w fun e w' => e = .returned (.int .i64 (readS s r p).2) ∧ SP b w' B (readS s r p).1 ∧ ChgK b w w' := by
  obtain ⟨a, c, l, h1, rfl, h3⟩ := h
  exact (readS_any w B a c l h1 r p hr).mono fun e w' h => opP_out h1 h3 hb h
theorem useSP (b : Nat) (w : World) (B : Nat) (s : List Fm) (h : SP b w B s) (hb : b ≤ w.heap.size) (p : Int) (ax : Option Addr) (m cx : Nat) (xs : List Int) (hm : m = xs.length) (hcx : m ≤ cx) (hcm : cx ≤ 9223372036854775807) (hx : Ints w ax xs) (hwf : ∀ z ∈ xs, I64 z) :
    Calls Try.prog 25 #[.pointer (some ⟨B, 0, none⟩), .int .i64 p, .slice ax m cx] w fun e w' => e = .returned (.int .i64 (useS s p xs).2) ∧ SP b w' B (useS s p xs).1 ∧ ChgK b w w' := by
  obtain ⟨a, c, l, h1, rfl, h3⟩ := h
  exact (useS_any w B a c l h1 p ax m cx xs hm hcx hcm hx hwf).mono fun e w' h => opP_out h1 h3 hb h
theorem freeSP (b : Nat) (w : World) (B : Nat) (s : List Fm) (h : SP b w B s) (p : Int) (ax : Option Addr) (m cx : Nat) (xs : List Int) (hm : m = xs.length) (hcx : m ≤ cx) (hcm : cx ≤ 9223372036854775807) (hx : Ints w ax xs) :
    Calls Try.prog 17 #[.pointer (some ⟨B, 0, none⟩), .int .i64 p, .slice ax m cx] w fun e w' => e = .returned (.bool (freeB s p xs)) ∧ Chg [] w w' := by
  obtain ⟨a, c, l, h1, rfl, h3⟩ := h
  exact freeS_any w B a c l h1 p ax m cx xs hm hcx hcm hx
theorem taintedSP (b : Nat) (w : World) (B : Nat) (s : List Fm) (h : SP b w B s) :
    Calls Try.prog 13 #[.pointer (some ⟨B, 0, none⟩)] w fun e w' => e = .returned (.bool (tntB s)) ∧ Chg [] w w' := by
  obtain ⟨a, c, l, h1, rfl, h3⟩ := h
  exact taintedS_any w B a c l h1
theorem involvedSP (b : Nat) (w : World) (B : Nat) (s : List Fm) (h : SP b w B s) (hsz : ∀ f ∈ s, f.inv.length ≤ 1000000) (r p : Int) :
    Calls Try.prog 11 #[.pointer (some ⟨B, 0, none⟩), .int .i64 r, .int .i64 p] w fun e w' => ∃ a' n' c', e = .returned (.slice a' n' c') ∧ n' = (invL s r p).length ∧ FreshInts w.heap.size w' a' c' (invL s r p) ∧ Chg [] w w' := by
  obtain ⟨a, c, l, h1, rfl, h3⟩ := h
  exact involvedS_any w B a c l h1 (fun x hx => hsz x.f (List.mem_map_of_mem hx)) r p
theorem leaveSP0 (b : Nat) (w : World) (B : Nat) (h : SP b w B []) :
    Calls Try.prog 27 #[.pointer (some ⟨B, 0, none⟩)] w (LeaveN w 5) := by
  obtain ⟨a, c, l, h1, h2, h3⟩ := h
  have e : l = [] := by simpa [fms] using h2
  subst e
  exact leaveS_nil w B a c h1
theorem leaveSP (b : Nat) (w : World) (B : Nat) (s : List Fm) (h : SP b w B s) (n : Nat) (hn : n + 1 = s.length) (f : Fm) (hf : s[n]? = some f) (hsz : f.tch.length ≤ 1000000) :
    Calls Try.prog 27 #[.pointer (some ⟨B, 0, none⟩)] w fun e w' =>
      ∃ ra rn rc, e = .returned (.tuple #[.agg #[.int .i64 f.rule, .int .i64 f.place, .slice ra rn rc, .bool f.tnt], .int .i64 0]) ∧ rn = f.tch.length ∧ FreshInts w.heap.size w' ra rc f.tch ∧ SP b w' B (s.take n) ∧ ChgK b w w' := by
  obtain ⟨a, c, l, h1, rfl, h3⟩ := h
  have hl : n + 1 = l.length := by rw [hn, fms_len]
  have e : (l[n]'(by omega)).f = f := by
    simp only [fms, List.getElem?_map, List.getElem?_eq_getElem (show n < l.length by omega), Option.map_some, Option.some.injEq] at hf
    exact hf
  have h4 := leaveS_any w B a c l h1 n hl (by rw [e]; exact hsz)
  unfold LeaveP at h4
  rw [e] at h4
  refine h4.mono fun e' w' h5 => ?_
  obtain ⟨ra, rn, rc, g1, g2, g3, g4, g5⟩ := h5
  refine ⟨ra, rn, rc, g1, g2, g3, ⟨a, c, l.take n, g4, by simp [fms, List.map_take], fun k hk => h3 k ?_⟩, chgK_of h1 h3 (g5.mono (fun j hj => .inl (by simp only [List.mem_singleton] at hj; simp [fpS, hj])))⟩
  simp only [fpS, List.mem_cons, List.mem_append, Option.mem_toList] at hk ⊢
  rcases hk with h | h | h
  · exact .inl h
  · exact .inr (.inl (by cases a <;> exact h))
  · exact .inr (.inr ((mapsOf_take n l).subset h))
theorem newSP (w : World) : Calls Try.prog 9 #[] w fun e w' => e = .returned (.pointer (some ⟨w.heap.size, 0, none⟩)) ∧ SP w.heap.size w' w.heap.size [] ∧ Chg [] w w' :=
  (newS_any w).mono fun e w' h => ⟨h.1, ⟨none, 0, [], h.2.1, rfl, fun k hk => by simp [fpS, mapsOf, Value.ownBlock] at hk; omega⟩, h.2.2⟩

def aw3 : List Fm := [⟨1, 0, [1, 2, 3], [], false⟩, ⟨2, 0, [2, 3], [], false⟩, ⟨3, 0, [3], [], false⟩]
def aw4 : List Fm := [⟨1, 0, [1, 2, 3], [], false⟩, ⟨2, 0, [2, 3], [3], false⟩, ⟨3, 0, [2, 3], [], true⟩]
def aw5 : List Fm := [⟨1, 0, [1, 2, 3], [], false⟩, ⟨2, 0, [2, 3], [3], false⟩]
def aw6 : List Fm := [⟨1, 0, [1, 2, 3], [2], false⟩, ⟨2, 0, [1, 2, 3], [3], true⟩]
theorem aw1_eq : enterS [] 1 0 = ([⟨1, 0, [1], [], false⟩], 0) := by rfl
theorem aw2_eq : enterS [⟨1, 0, [1], [], false⟩] 2 0 = ([⟨1, 0, [1, 2], [], false⟩, ⟨2, 0, [2], [], false⟩], 0) := by rfl
theorem aw3_eq : enterS [⟨1, 0, [1, 2], [], false⟩, ⟨2, 0, [2], [], false⟩] 3 0 = (aw3, 0) := by rfl
theorem aw4_eq : readS aw3 2 0 = (aw4, 0) := by rfl
theorem aw6_eq : readS aw5 1 0 = (aw6, 0) := by rfl
theorem awi_eq : invL aw4 2 0 = [3] := by rfl
end Go.Proofs.Ytnajhcoimohcaaa

/-
  Copies of a grammar's lists, in memory of their own.
  Conditions: the lists read as data; they are within the reach.
-/
import Derived.Test.YtibgfgfmljhimaaG06B
import Derived.Laws.AppendOwnNone
set_option linter.unusedVariables false
set_option linter.unusedSimpArgs false
namespace Go.Proofs.Ytibgfgfmljhimaa
open Go.RowKit Go.MapKept Go.Shelf

theorem Try.infoRule : (Try.prog.info? 46).map (fun i => (i.zero, i.size, i.bytes)) = some (some (.agg #[.string ⟨#[]⟩, .int .i64 0]), 2, 24) := by kernel_rfl
theorem Try.infoNode : (Try.prog.info? 32).map (fun i => (i.zero, i.size, i.bytes)) = some (some (.agg #[.int .i64 0, .int .u64 0, .int .u64 0, .int .u64 0, .int .u64 0, .string ⟨#[]⟩, .int .i64 0, .int .i64 0, .slice none 0 0]), 9, 96) := by kernel_rfl

theorem ints_none {w : World} {zs : List Int} (h : Ints w none zs) : zs = [] := by
  cases zs with
  | nil => rfl
  | cons z zs => obtain ⟨b, o, h1, _⟩ := h 0 (by simp); cases h1
theorem ints_some {w : World} {b : Addr} {zs : List Int} (h : Ints w (some b) zs) : ∀ j u, (zs.map (Value.int .i64))[j]? = some u → w.cell? (b.add j) = some u := by
  intro j u hu
  rw [List.getElem?_map] at hu
  cases hz : zs[j]? with
  | none => rw [hz] at hu; cases hu
  | some z =>
    rw [hz] at hu
    simp only [Option.map_some, Option.some.injEq] at hu
    subst hu
    obtain ⟨hj, hzj⟩ := List.getElem?_eq_some_iff.1 hz
    obtain ⟨b', o, h1, h2⟩ := h j hj
    simp only [Option.some.injEq] at h1
    subst h1
    rw [Addr.add_lit, h2, hzj]
/-- An append of a nil list, whatever its room says. -/
theorem run_append_nil {P : Program} {w : World} (base : Nat) (t ty e : TypeId) (i : TypeInfo) (size : Nat) (c : Nat) (ht : P.underlying t = some (.slice e)) (hi : P.info? e = some i)
    (v : Value) (n : Nat) (xs : List Value) (hown : w.ownsRow base e size v n xs) :
    (Builtin.append_ #[t, t] ty #[v, .slice none 0 c]).run P w = .ok v w := by
  rcases hown.2 with ⟨rfl, rfl⟩ | ⟨g, cap, cur, rfl, _, _, hnc, _⟩
  · simp [Builtin.append_, run_underlying ht, sizeOf, typeInfo, hi, Builtin.lenOf, Builtin.firstCells]
  · simp [Builtin.append_, run_underlying ht, sizeOf, typeInfo, hi, Builtin.lenOf, Builtin.firstCells, hnc, storeCells]
theorem wpList_append_nil {P : Program} {w : World} {ops : Array Oper} {rest : List Oper} {o : Oper} {a : Act} {Q : Exit → Act → World → Prop} (hgd : o.guard = none) (s x : Operand) (t : TypeId)
    (ho : o.op = .call { callee := .builtin .append, args := #[s, x], argTypes := #[t, t] })
    (base : Nat) (e : TypeId) (i : TypeInfo) (size : Nat) (c : Nat) (ht : P.underlying t = some (.slice e)) (hi : P.info? e = some i)
    (v : Value) (n : Nat) (xs : List Value) (hs : a.eval s = v) (hown : w.ownsRow base e size v n xs) (hx : a.eval x = .slice none 0 c)
    (h : wpList P ops Q rest (a.put o.dst v) w) : wpList P ops Q (o :: rest) a w := by
  refine wpList_plain hgd fun K hK => ?_
  have hrun := run_append_nil (P := P) (w := w) base t o.type e i size c ht hi v n xs hown
  unfold Oper.wp
  simp [execOp, ho, resolve, invoke, builtin, hs, hx, hrun, Result.andThen]
  exact hK _ _ h
/-- A row of one's own, new, that holds numbers. -/
def NewInts (w : World) (zs : List Int) (e : Ending) (w' : World) : Prop :=
  ∃ a c, e = .returned (.slice a zs.length c) ∧ OwnInts w' (.slice a zs.length c) zs ∧ Chg [] w w'

set_option maxRecDepth 100000 in
set_option maxHeartbeats 1000000 in
theorem CopyInts_any (w : World) (a : Option Addr) (n c : Nat) (zs : List Int) (hn : n = zs.length) (hs : n ≤ 17592186044416) (hz : Ints w a zs) :
    Calls Try.prog 154 #[.slice a n c] w (NewInts w zs) := by
  obtain ⟨i0, hi, hz0, hz1, hz2⟩ := info_parts Try.infoInt
  cases a with
  | none =>
    obtain rfl := ints_none hz
    obtain rfl : n = 0 := by simpa using hn
    clear hz hn
    have hnil : w.ownsRow 0 3 1 (.slice none 0 0) 0 [] := World.ownsRow_nil _ _ _ _
    have HN := Lib.hid hnil
    clear hnil
    go_enter Try.func154, Try.ntmps154
    go_wp2_with (at_builtin; refine wpList_append_nil rfl _ _ 30 rfl 0 3 i0 1 c Try.underlying30 hi (.slice none 0 0) 0 [] rfl HN.out rfl ?_)
    go_ret
    exact ⟨none, 0, rfl, HN.out, Chg.refl _ _⟩
  | some b =>
    have hnil : w.ownsRow 0 3 1 (.slice none 0 0) 0 [] := World.ownsRow_nil _ _ _ _
    have hl : (zs.map (Value.int .i64)).length = n * 1 := by simp [hn]
    have h1 : ∀ u ∈ zs.map (Value.int .i64), u.oneCell' = true := by
      intro u hu
      obtain ⟨z, _, rfl⟩ := List.mem_map.1 hu
      rfl
    have h2 : 0 + n ≤ maxLen ∧ (0 + n) * 8 ≤ 140737488355328 := by simp only [maxLen]; omega
    have HN := Lib.hid (And.intro hnil (And.intro hl (And.intro (ints_some hz) (And.intro h1 (And.intro h2 hn)))))
    clear hnil hl h1 h2 hz hn
    go_enter Try.func154, Try.ntmps154
    go_wp2_with (at_builtin; refine wpList_append_row rfl _ _ 30 rfl 3 i0 _ 1 8 Try.underlying30 hi hz0 hz1 hz2 rfl (by decide) (.slice none 0 0) 0 [] rfl HN.out.1 b n c (zs.map (Value.int .i64)) rfl HN.out.2.1 HN.out.2.2.1 HN.out.2.2.2.1 HN.out.2.2.2.2.1.1 HN.out.2.2.2.2.1.2 ?_; intro a' c' w1 hr1 hg1 hk1; have HW := Lib.hid (And.intro hr1 hg1); clear hr1 hg1 hk1)
    go_ret
    have hn := HN.out.2.2.2.2.2
    obtain ⟨hr1, hg1⟩ := HW.out
    simp only [Nat.zero_add, List.nil_append] at hr1 ⊢
    subst hn
    exact ⟨a', c', rfl, hr1, (Chg.refl _ _).grown hg1 (fun k hk => by cases hk)⟩
end Go.Proofs.Ytibgfgfmljhimaa

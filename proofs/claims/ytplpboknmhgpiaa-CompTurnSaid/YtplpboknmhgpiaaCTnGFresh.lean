/-
  gram.Copy: the same grammar in memory of its own.
  Conditions: the grammar reads as data; it is small.
-/
import Derived.Test.YtplpboknmhgpiaaCTnGBool
set_option linter.unusedVariables false
set_option linter.unusedSimpArgs false
namespace Go.Proofs.Ytplpboknmhgpiaa
open Go.RowKit Go.MapKept Go.Shelf
attribute [local go_sem] Oper.semAt_some

/-- A grammar of one's own, new. -/
def DupG (w : World) (g : Gr) (e : Ending) (w' : World) : Prop :=
  ∃ b1 d1 b2 d2 L, e = .returned (.agg #[.slice b1 g.rules.length d1, .slice b2 g.nodes.length d2]) ∧ L.map (·.1) = g.nodes ∧ OwnG w.heap.size w' b1 d1 b2 d2 L g.rules ∧ Chg [] w w'

/-- Between two rounds. -/
structure DupI (w : World) (Br Bo Bl : Nat) (vl : Value) (b1 : Option Addr) (d1 : Nat) (g : Gr) (pre : List Cp) (W : World) : Prop where
  own : ∃ a2 c2, W.heap[Bo]? = some (.cells #[.slice b1 g.rules.length d1, .slice a2 pre.length c2] 142 (0, 0)) ∧ OwnG w.heap.size W b1 d1 a2 c2 pre g.rules
  at_ : pre.map (·.1) = g.nodes.take pre.length
  len : pre.length ≤ g.nodes.length
  res : W.heap[Br]? = some (.cells #[.slice none 0 0, .slice none 0 0] 142 (0, 0))
  lst : W.heap[Bl]? = some (.cells #[vl] 126 (0, 0))
  chg : Chg [] w W
theorem DupI.stays {w : World} {Br Bo Bl : Nat} {vl : Value} {b1 : Option Addr} {d1 : Nat} {g : Gr} {pre : List Cp} {B : Nat} (hB : w.heap.size ≤ B) : Stays B (DupI w Br Bo Bl vl b1 d1 g pre) := by
  refine ⟨fun h hc => ?_, fun h ht => ?_⟩
  · obtain ⟨⟨a2, c2, h1, h2⟩, h3, h4, h5, h7, h6⟩ := h
    exact ⟨⟨a2, c2, hc.heap h1 (by simp), h2.chg0 hc⟩, h3, h4, hc.heap h5 (by simp), hc.heap h7 (by simp), h6.tr0 hc⟩
  · obtain ⟨⟨a2, c2, h1, h2⟩, h3, h4, h5, h7, h6⟩ := h
    exact ⟨⟨a2, c2, ht.heap h1 rfl, (OwnG.stays B _ _ _ _ _ _ _).turn h2 ht⟩, h3, h4, ht.heap h5 rfl, ht.heap h7 rfl, (Stays.since B [] w hB).turn h6 ht⟩
theorem CopyX.stays (B n₀ : Nat) (ns : List Nd) (pre : List Cp) (p : Cp) : Stays B (CopyX n₀ ns pre p) :=
  (Stays.pure _).and ((Stays.row B _ _ _ _ _ _).and (Stays.pure _))

end Go.Proofs.Ytplpboknmhgpiaa
set_option linter.unusedVariables false
set_option linter.unusedSimpArgs false
namespace Go.Proofs.Ytplpboknmhgpiaa
open Go.RowKit Go.MapKept Go.Shelf

set_option maxRecDepth 100000 in
set_option maxHeartbeats 1000000 in
theorem CopyIntsF_any (w : World) (a : Option Addr) (n c : Nat) (zs : List Int) (hn : n = zs.length) (hs : n ≤ 17592186044416) (hz : Ints w a zs) :
    Calls Try.prog 32 #[.slice a n c] w (ClonedInts w zs) := by
  obtain ⟨i0, hi, hz0, hz1, hz2⟩ := info_parts Try.infoInt
  cases a with
  | none =>
    obtain rfl := ints_none hz
    obtain rfl : n = 0 := by simpa using hn
    clear hz hn
    have hnil : w.ownsRow w.heap.size 3 1 (.slice none 0 0) 0 [] := World.ownsRow_nil _ _ _ _
    have HN := Lib.hid hnil
    clear hnil
    go_enter Try.func32, Try.ntmps32
    go_wp2_with (at_builtin; refine wpList_append_nil rfl _ _ 26 rfl w.heap.size 3 i0 1 c Try.underlying26 hi (.slice none 0 0) 0 [] rfl HN.out rfl ?_)
    go_ret
    exact ⟨none, 0, rfl, HN.out, Chg.refl _ _⟩
  | some b =>
    have hl : (zs.map (Value.int .i64)).length = n * 1 := by simp [hn]
    have h1 : ∀ u ∈ zs.map (Value.int .i64), u.oneCell' = true := by
      intro u hu
      obtain ⟨z, _, rfl⟩ := List.mem_map.1 hu
      rfl
    have h2 : 0 + n ≤ maxLen ∧ (0 + n) * 8 ≤ 140737488355328 := by simp only [maxLen]; omega
    have HN := Lib.hid (And.intro hl (And.intro (ints_some hz) (And.intro h1 (And.intro h2 hn))))
    clear hl h1 h2 hz hn
    go_enter Try.func32, Try.ntmps32
    go_wp2_with (at_builtin; refine wpList_append_own_at _ rfl _ _ 26 rfl w.heap.size 3 i0 _ 1 8 Try.underlying26 hi hz0 hz1 hz2 rfl (by decide) (.slice none 0 0) 0 [] rfl (World.ownsRow_nil _ _ _ _) b n c (zs.map (Value.int .i64)) rfl HN.out.1 HN.out.2.1 HN.out.2.2.1 HN.out.2.2.2.1.1 HN.out.2.2.2.1.2 (Nat.le_refl _) ?_; intro v' w1 hown hgrow hnil hblk; obtain ⟨a', c', rfl⟩ := ownsRow_slice hown; have HW := Lib.hid (And.intro hown hgrow); clear hown hgrow hnil hblk)
    go_ret
    obtain ⟨hl, h3, h1, h2, hn⟩ := HN.out
    obtain ⟨hr, hg⟩ := HW.out
    subst hn
    simp only [Nat.zero_add] at hr ⊢
    exact ⟨a', c', rfl, by simpa [FreshInts] using hr, (Chg.refl _ _).grown hg (fun k hk => by cases hk)⟩

def NewNodeF (w : World) (x : Nd) (e : Ending) (w' : World) : Prop :=
  ∃ a c, e = .returned (.agg (x.cells a x.kids.length c)) ∧ FreshInts w.heap.size w' a c x.kids ∧ Chg [] w w'

/-- Nodes in rows of their own. -/
def NewBody (w : World) (ns : List Nd) (e : Ending) (w' : World) : Prop :=
  ∃ a c L, e = .returned (.slice a ns.length c) ∧ L.map (·.1) = ns ∧ OwnG w.heap.size w' none 0 a c L [] ∧ Chg [] w w'

end Go.Proofs.Ytplpboknmhgpiaa

/-
  append to an empty row just made: a new row.
  Conditions: none.
-/
import Derived.Test.YtffjfkjlahdedaaSnsSr0
set_option linter.unusedVariables false
set_option linter.unusedSimpArgs false
set_option linter.unnecessarySimpa false
namespace Go.Proofs.Ytffjfkjlahdedaa
open Go.RowKit Go.MapKept

theorem wp_append_fresh {P : Program} {w : World} {o : Oper} {a : Act} {K : Act → World → Prop} {Q : Exit → Act → World → Prop} (s x : Operand) (t : TypeId)
    (ho : o.op = .call { callee := .builtin .append, args := #[s, x], argTypes := #[t, t] })
    (e : TypeId) (i : TypeInfo) (z : Value) (size bytes : Nat) (ht : P.underlying t = some (.slice e)) (hi : P.info? e = some i) (hz : i.zero = some z)
    (hsize : i.size = size) (hby : i.bytes = bytes) (hzs : z.cells.size = size) (hsz : 0 < size)
    (g : Nat) (hs : a.eval s = .slice (some ⟨g, 0, none⟩) 0 0) (hg : w.heap[g]? = some (.cells #[] e (0, 0))) (base : Nat) (hbg : base ≤ g)
    (ad : Option Addr) (m c : Nat) (news : List Value) (hx : a.eval x = .slice ad m c) (hl : news.length = m * size) (hnone : ad = none → m = 0 ∧ c = 0) (hnews : ∀ b, ad = some b → ∀ j u, news[j]? = some u → w.cell? (b.add j) = some u) (h1 : ∀ u ∈ news, u.oneCell' = true)
    (h63 : m ≤ maxLen) (hbytes : m * bytes ≤ 140737488355328)
    (h : ∀ a' c' w', w'.ownsRow base e size (.slice a' m c') m news → Chg [] w w' → K (a.put o.dst (.slice a' m c')) w') : o.wp P a w K Q := by
  have hown : w.ownsRow base e size (.slice (some ⟨g, 0, none⟩) 0 0) 0 [] := ⟨by simp, .inr ⟨g, 0, #[], rfl, hbg, hg, Nat.le_refl _, Nat.zero_le _, by simp, by simp⟩⟩
  have hgl := lt_of_block hg
  cases ad with
  | none =>
    obtain ⟨rfl, rfl⟩ := hnone rfl
    obtain rfl : news = [] := List.eq_nil_of_length_eq_zero (by simpa using hl)
    have hrun := run_append_owned_none (P := P) (w := w) base t o.type e i size ht hi _ 0 [] hown
    unfold Oper.wp
    simp [execOp, ho, resolve, invoke, builtin, hs, hx, hrun, Result.andThen]
    exact h _ _ _ hown (Chg.refl _ _)
  | some ad =>
    obtain ⟨v', w', hr, h2, h3, h4⟩ := run_append_two (P := P) w base t o.type e i z size bytes ht hi hz hsize hby hzs hsz _ 0 [] hown ad m c news hl (hnews ad rfl) h1 (by simpa using h63) (by simpa using hbytes) (by omega)
    rw [Nat.zero_add, List.nil_append] at h2
    obtain ⟨a', c', rfl⟩ := ownsRow_slice h2
    unfold Oper.wp execOp
    simp only [ho, resolve, invoke, builtin, Sem.run_bind, Sem.run_pure, Result.andThen_ok, List.map_toArray, List.map_cons, List.map_nil, hs, hx, hr]
    refine h _ _ _ h2 ?_
    rcases h4 with ⟨g', cap, e1, e2⟩ | ⟨h4, _⟩
    · cases e1
      simp only [Nat.zero_add] at e2
      simp only [Value.slice.injEq, and_true] at e2
      obtain ⟨rfl, -, rfl⟩ := e2
      rcases h2.2 with ⟨h0, _⟩ | ⟨g2, cap2, cur2, h0, _, hg2, _, _, hcs, _⟩
      · cases h0
      · cases h0
        have hcur : cur2 = #[] := Array.eq_empty_of_size_eq_zero (by simpa using hcs)
        subst hcur
        refine ⟨h3.os, h3.tape, h3.output, h3.size, fun k hk _ => ?_⟩
        by_cases e : k = g
        · subst e; rw [hg, hg2]
        · exact h3.block k hk (by simp [Value.ownBlock]; exact e)
    · exact h4
end Go.Proofs.Ytffjfkjlahdedaa

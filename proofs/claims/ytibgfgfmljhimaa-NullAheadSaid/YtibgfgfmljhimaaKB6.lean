/-
  A grammar's rules get another one's names, as the laws of the layers 11, 12 do it.
  Conditions: as many rules; the rules lie in a row of their own.
-/
import Derived.Test.YtibgfgfmljhimaaKB4
set_option linter.unusedVariables false
set_option linter.unusedSimpArgs false
set_option linter.unnecessarySimpa false
namespace Go.Proofs.Ytibgfgfmljhimaa
open Go.RowKit Go.MapKept Go.Shelf

/-- A rule's name is written. -/
theorem rules_put {B : Nat} {w : World} {b1 : Option Addr} {d1 : Nat} {rs : List Rl} (h : FreshRules B w b1 d1 rs) {i : Nat} (hi : i < rs.length) :
    ∃ R, b1 = some ⟨R, 0, none⟩ ∧ B ≤ R ∧ (∃ cur, w.heap[R]? = some (.cells cur 46 (0, 0))) ∧ w.cell? ⟨R, i * 2, none⟩ = some (.string rs[i].name) ∧ w.frozen? ⟨R, i * 2, none⟩ = false ∧
      ∀ nm, FreshRules B (w.setCell ⟨R, i * 2, none⟩ (.string nm)) b1 d1 (rs.set i ⟨nm, rs[i].body⟩) ∧ Chg [R] w (w.setCell ⟨R, i * 2, none⟩ (.string nm)) := by
  rcases h.2 with ⟨h0, h1⟩ | ⟨R, cap, cur, h0, hb, hg, hn, hcm, hcs, ht⟩
  · omega
  have hK : b1 = some ⟨R, 0, none⟩ := by injection h0
  have hcap : cap = d1 := by injection h0 with _ _ h0; exact h0.symm
  subst hcap
  subst hK
  have hcell : ∀ (j : Nat) (u : Value), (rulesCells rs)[j]? = some u → cur[j]? = some u := by
    intro j u hu
    rw [← ht, List.getElem?_take] at hu
    split at hu
    · simpa using hu
    · cases hu
  refine ⟨R, rfl, hb, ⟨cur, hg⟩, ?_, free_of_cells hg _, fun nm => ⟨?_, (Chg.refl [R] w).setCell (p := ⟨R, i * 2, none⟩) (.inl (by simp)) _⟩⟩
  · rw [cell_of_cells hg]
    refine hcell _ _ ?_
    have := flat_get Rl.cells 2 (fun _ => rfl) rs i 0 (by decide)
    rw [Nat.add_zero, List.getElem?_eq_getElem hi, Option.bind_some] at this
    exact this
  · refine ⟨by rw [rulesCells_len], .inr ⟨R, cap, _, by rw [List.length_set], hb, heap_setCell_same hg _ _, by rw [List.length_set]; exact hn, hcm, by simpa using hcs, ?_⟩⟩
    rw [Array.toList_setIfInBounds, List.take_set, List.length_set, ht]
    apply List.ext_getElem?
    intro j
    have e2 : j = j / 2 * 2 + j % 2 := by omega
    have hr2 : j % 2 < 2 := Nat.mod_lt _ (by decide)
    have hnew := flat_get Rl.cells 2 (fun _ => rfl) (rs.set i ⟨nm, rs[i].body⟩) (j / 2) (j % 2) hr2
    have hold := flat_get Rl.cells 2 (fun _ => rfl) rs (j / 2) (j % 2) hr2
    rw [← e2] at hnew hold
    rw [show rulesCells (rs.set i ⟨nm, rs[i].body⟩) = (rs.set i ⟨nm, rs[i].body⟩).flatMap Rl.cells from rfl, hnew, List.getElem?_set, List.getElem?_set]
    have hl : (rulesCells rs).length = rs.length * 2 := rulesCells_len rs
    by_cases hij : i = j / 2
    · subst hij
      rw [if_pos rfl, if_pos hi, Option.bind_some]
      by_cases hm : j % 2 = 0
      · have e3 : j / 2 * 2 = j := by omega
        rw [if_pos e3, if_pos (by rw [hl]; omega), hm]; rfl
      · have hm1 : j % 2 = 1 := by omega
        rw [if_neg (by omega)]
        rw [show (rulesCells rs)[j]? = _ from hold, List.getElem?_eq_getElem hi, Option.bind_some, hm1]; rfl
    · rw [if_neg hij, if_neg (by omega)]
      exact hold
theorem FreshRules.drew {B : Nat} {w : World} {a : Option Addr} {c : Nat} {rs : List Rl} (h : FreshRules B w a c rs) : FreshRules B w.drew a c rs := ((Chg.refl [] w).drew).row h (fun _ _ => by simp)
/-- The first i rules have the other's names. -/
def NamedTo (xr gr : List Rl) (i : Nat) (L : List Rl) : Prop := L.length = xr.length ∧ ∀ j (h : j < L.length) (h1 : j < xr.length) (h2 : j < gr.length), L[j] = if j < i then ⟨gr[j].name, xr[j].body⟩ else xr[j]
theorem namedTo_start (xr gr : List Rl) : NamedTo xr gr 0 xr := ⟨rfl, fun j h h1 h2 => by rw [if_neg (by omega)]⟩
theorem namedTo_next {xr gr L : List Rl} {i : Nat} (h : NamedTo xr gr i L) (hl : xr.length = gr.length) (hi : i < L.length) (hg : i < gr.length) : NamedTo xr gr (i + 1) (L.set i ⟨gr[i].name, L[i].body⟩) := by
  refine ⟨by rw [List.length_set]; exact h.1, fun j h0 h1 h2 => ?_⟩
  have h0' : j < L.length := by simpa using h0
  rw [List.getElem_set]
  by_cases hij : i = j
  · subst hij
    rw [if_pos rfl, if_pos (by omega), h.2 i h0' h1 h2, if_neg (by omega)]
  · rw [if_neg hij, h.2 j h0' h1 h2]
    by_cases hj : j < i
    · rw [if_pos hj, if_pos (by omega)]
    · rw [if_neg hj, if_neg (by omega)]
theorem namedTo_end {xr gr L : List Rl} {i : Nat} (h : NamedTo xr gr i L) (hl : xr.length = gr.length) (hi : gr.length ≤ i) : L = wrapR gr (xr.map (·.body)) := by
  apply List.ext_getElem
  · simp [wrapR, h.1, hl]
  · intro j h1 h2
    have := h.2 j h1 (by have := h.1; omega) (by have := h.1; omega)
    rw [if_pos (by have := h.1; omega)] at this
    rw [this]
    simp [wrapR]

set_option maxRecDepth 100000 in
set_option maxHeartbeats 4000000 in
theorem named11_any (w : World) (B : Nat) (b1 : Option Addr) (d1 : Nat) (b2 : Option Addr) (m2 d2 : Nat) (xr : List Rl) (a1 : Option Addr) (n1 c1 : Nat) (a2 : Option Addr) (n2 c2 : Nat) (gr : List Rl) (hx : FreshRules B w b1 d1 xr) (hg : Rules w a1 gr) (hn : n1 = gr.length) (hl : xr.length = gr.length) (hs : n1 ≤ 300)
    (hB : ∀ i b o, a1 = some ⟨b, o, none⟩ → i < gr.length → b < B) :
    Calls Try.prog 54 #[.agg #[.slice b1 xr.length d1, .slice b2 m2 d2], .agg #[.slice a1 n1 c1, .slice a2 n2 c2]] w fun e w' =>
      e = .returned (.agg #[.slice b1 xr.length d1, .slice b2 m2 d2]) ∧ FreshRules B w' b1 d1 (wrapR gr (xr.map (·.body))) ∧ Chg (Value.slice b1 xr.length d1).ownBlock.toList w w' := by
  obtain ⟨xl, hxl⟩ : ∃ xl, xl = xr.length := ⟨_, rfl⟩
  have H := Lib.hid (And.intro hx (And.intro hg (And.intro hn (And.intro hl (And.intro hB hxl)))))
  rw [← hxl]
  have hxn : xl = n1 := by omega
  subst hxn
  clear hx hg hn hl hB hxl
  go_enter Try.func54, Try.ntmps54
  go_wp2_with fail
  have t2 := heap_alloc_lt (heap_alloc_lt (heap_alloc_same w (.cells #[.slice b1 xl d1, .slice b2 m2 d2] 25)) (.cells #[.slice a1 xl c1, .slice a2 n2 c2] 25)) (.cells #[.slice none 0 0, .slice none 0 0] 25)
  have t3 := heap_alloc_lt (heap_alloc_same (w.alloc (.cells #[.slice b1 xl d1, .slice b2 m2 d2] 25)) (.cells #[.slice a1 xl c1, .slice a2 n2 c2] 25)) (.cells #[.slice none 0 0, .slice none 0 0] 25)
  have t4 := heap_alloc_same ((w.alloc (.cells #[.slice b1 xl d1, .slice b2 m2 d2] 25)).alloc (.cells #[.slice a1 xl c1, .slice a2 n2 c2] 25)) (.cells #[.slice none 0 0, .slice none 0 0] 25)
  have hcA := (((Chg.refl [] w).alloc (.cells #[.slice b1 xl d1, .slice b2 m2 d2] 25)).alloc (.cells #[.slice a1 xl c1, .slice a2 n2 c2] 25)).alloc (.cells #[.slice none 0 0, .slice none 0 0] 25)
  simp only [World.size_alloc] at t3 t4
  obtain ⟨w3, e3⟩ : ∃ w3, w3 = ((w.alloc (.cells #[.slice b1 xl d1, .slice b2 m2 d2] 25)).alloc (.cells #[.slice a1 xl c1, .slice a2 n2 c2] 25)).alloc (.cells #[.slice none 0 0, .slice none 0 0] 25) := ⟨_, rfl⟩
  rw [← e3] at t2 t3 t4 hcA ⊢
  have HA := Lib.hid (And.intro t2 (And.intro t3 (And.intro t4 hcA)))
  clear e3 t2 t3 t4 hcA
  go_loopg [5] xl (fun d iv wr => ∃ i : Nat, d = xl - i ∧ i ≤ xl ∧ iv = .int .i64 i ∧ Hid (∃ L, NamedTo xr gr i L ∧ FreshRules B wr b1 d1 L ∧ Chg (Value.slice b1 xl d1).ownBlock.toList w3 wr))
  case atStart => exact ⟨0, rfl, Nat.zero_le _, rfl, Lib.hid ⟨xr, namedTo_start xr gr, HA.out.2.2.2.row H.out.1 (fun _ _ => by simp), Chg.refl _ _⟩⟩
  case round =>
    obtain ⟨i, rfl, hi, rfl, hin⟩ := hrel
    obtain ⟨wq, rfl⟩ : ∃ wz, wz = wr := ⟨_, rfl⟩
    obtain ⟨L, hnt, hrow, hch⟩ := hin.out
    have hRl : ∀ j ∈ (Value.slice b1 xl d1).ownBlock.toList, B ≤ j ∧ j < w.heap.size := fun j hj => by
      simp only [Option.mem_toList] at hj
      have h1 := H.out.1
      rw [FreshRules, ← H.out.2.2.2.2.2] at h1
      exact ⟨(row_beyond h1 hj).1, (row_beyond h1 hj).2.1⟩
    have t2 := hch.heap HA.out.1 (fun hm => by have := hRl _ hm; omega)
    have t3 := hch.heap HA.out.2.1 (fun hm => by have := hRl _ hm; omega)
    have t4 := hch.heap HA.out.2.2.1 (fun hm => by have := hRl _ hm; omega)
    obtain ⟨x0, x1⟩ := cells2 t2
    obtain ⟨g0, g1⟩ := cells2 t3
    by_cases hlt : i < xl
    · have hiL : i < L.length := by have := hnt.1; have := H.out.2.2.2.2.2; omega
      have hig : i < gr.length := by have := H.out.2.2.1; omega
      obtain ⟨R, rfl, hBR, _, hc, hf, hput⟩ := rules_put hrow hiL
      obtain ⟨bg, og, rfl, hgn, -⟩ := H.out.2.1 i hig
      have hbg := H.out.2.2.2.2.1 i bg og rfl hig
      have hgn2 := hch.cell (HA.out.2.2.2.cell hgn (by simp)) (fun hm => by have := (hRl _ hm).1; simp only at this; omega)
      obtain ⟨nm, hnm⟩ : ∃ nm, nm = gr[i].name := ⟨_, rfl⟩
      rw [← hnm] at hgn2
      have hput2 : ∃ L', NamedTo xr gr (i + 1) L' ∧ FreshRules B (wq.setCell ⟨R, i * 2, none⟩ (.string nm)) (some ⟨R, 0, none⟩) d1 L' ∧ Chg (Value.slice (some ⟨R, 0, none⟩) xl d1).ownBlock.toList w3 (wq.setCell ⟨R, i * 2, none⟩ (.string nm)) := by
        obtain ⟨p1, p2⟩ := hput nm
        refine ⟨_, ?_, p1, hch.trans p2 (fun j hj => .inl (by simpa [Value.ownBlock] using hj))⟩
        rw [hnm]
        exact namedTo_next hnt H.out.2.2.2.1 hiL hig
      have HR := Lib.hid hput2
      obtain ⟨v0, hv0⟩ : ∃ v0, v0 = Value.string L[i].name := ⟨_, rfl⟩
      rw [← hv0] at hc
      clear hnt hrow hch t2 t3 t4 hRl hput hput2 hgn hnm hv0
      clear hiL hig
      go_wp2_with fail
      go_region
      all_goals go_wp2_with fail
      all_goals go_roundg (xl - (i + 1))
      case measure => omega
      case rel =>
        obtain ⟨L', q1, q2, q3⟩ := HR.out
        exact ⟨i + 1, rfl, by omega, by go_num, Lib.hid ⟨L', q1, q2.drew, q3.drew⟩⟩
    · obtain rfl : i = xl := by omega
      have y0 := (cells2 t4).1
      have y1 := (cells2 t4).2
      have f0 := free_of_cells t4 0
      have f1 := free_of_cells t4 1
      have HE := Lib.hid (And.intro hnt (And.intro hrow (And.intro hch (And.intro t4 hRl))))
      clear hnt hrow hch t2 t3 t4 hRl
      go_wp2_with fail
      clear x0 x1 g0 g1 y0 y1 f0 f1
      obtain ⟨hnt, hrow, hch, t4, hRl⟩ := HE.out
      have hc := ((Chg.refl [w.heap.size + 1 + 1] wq).setCell (p := ⟨w.heap.size + 1 + 1, 0, none⟩) (.inl (by simp)) (.slice b1 i d1)).setCell (p := ⟨w.heap.size + 1 + 1, 1, none⟩) (.inl (by simp)) (.slice b2 m2 d2)
      have hz := heap_setCell_same (heap_setCell_same t4 0 (.slice b1 i d1)) 1 (.slice b2 m2 d2)
      simp at hz
      obtain ⟨y0, y1⟩ := cells2 hz
      have hTl := lt_of_block hz
      refine bodyPost_ret (v := .agg #[.slice b1 i d1, .slice b2 m2 d2]) (by simp [results, Try.results54, go_sem, y0, y1, hTl]) rfl ?_
      have hrow2 := hc.rowOf hrow (fun k hk => by simp only [List.mem_singleton] at hk; subst hk; exact .of_cells t4 (by decide))
      have hend := namedTo_end hnt H.out.2.2.2.1 (by have := H.out.2.2.1; omega)
      rw [hend] at hrow2
      refine ⟨rfl, hrow2, ?_⟩
      exact (HA.out.2.2.2.any.tr hch).trans hc (fun j hj => .inr (by simp at hj; omega))
end Go.Proofs.Ytibgfgfmljhimaa

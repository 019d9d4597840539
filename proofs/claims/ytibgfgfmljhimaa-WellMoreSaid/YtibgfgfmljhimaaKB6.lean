/-
  A grammar's rules get another one's names, as the laws of the layers 11, 12 do it.
  Conditions: as many rules; the rules lie in a row of their own.
-/
import Derived.Test.YtibgfgfmljhimaaKB4
set_option linter.unusedVariables false
set_option linter.unusedSimpArgs false
set_option linter.unnecessarySimpa false
namespace Go.Proofs.Ytibgfgfmljhimaa
open Go.RowKit Go.MapKept Go.Shelf

set_option maxRecDepth 100000 in
set_option maxHeartbeats 4000000 in
theorem named11_any (w : World) (B : Nat) (b1 : Option Addr) (d1 : Nat) (b2 : Option Addr) (m2 d2 : Nat) (xr : List Rl) (a1 : Option Addr) (n1 c1 : Nat) (a2 : Option Addr) (n2 c2 : Nat) (gr : List Rl) (hx : FreshRules B w b1 d1 xr) (hg : Rules w a1 gr) (hn : n1 = gr.length) (hl : xr.length = gr.length) (hs : n1 ≤ 300)
    (hB : ∀ i b o, a1 = some ⟨b, o, none⟩ → i < gr.length → b < B) :
    Calls Try.prog 54 #[.agg #[.slice b1 xr.length d1, .slice b2 m2 d2], .agg #[.slice a1 n1 c1, .slice a2 n2 c2]] w fun e w' =>
      e = .returned (.agg #[.slice b1 xr.length d1, .slice b2 m2 d2]) ∧ FreshRules B w' b1 d1 (wrapR gr (xr.map (·.body))) ∧ Chg (Value.slice b1 xr.length d1).ownBlock.toList w w' := by
  obtain ⟨xl, hxl⟩ : ∃ xl, xl = xr.length := ⟨_, rfl⟩
  have H := Lib.hid (And.intro hx (And.intro hg (And.intro hn (And.intro hl (And.intro hB hxl)))))
  rw [← hxl]
  have hxn : xl = n1 := by omega
  subst hxn
  clear hx hg hn hl hB hxl
  go_enter Try.func54, Try.ntmps54
  go_wp2_with fail
  have t2 := heap_alloc_lt (heap_alloc_lt (heap_alloc_same w (.cells #[.slice b1 xl d1, .slice b2 m2 d2] 25)) (.cells #[.slice a1 xl c1, .slice a2 n2 c2] 25)) (.cells #[.slice none 0 0, .slice none 0 0] 25)
  have t3 := heap_alloc_lt (heap_alloc_same (w.alloc (.cells #[.slice b1 xl d1, .slice b2 m2 d2] 25)) (.cells #[.slice a1 xl c1, .slice a2 n2 c2] 25)) (.cells #[.slice none 0 0, .slice none 0 0] 25)
  have t4 := heap_alloc_same ((w.alloc (.cells #[.slice b1 xl d1, .slice b2 m2 d2] 25)).alloc (.cells #[.slice a1 xl c1, .slice a2 n2 c2] 25)) (.cells #[.slice none 0 0, .slice none 0 0] 25)
  have hcA := (((Chg.refl [] w).alloc (.cells #[.slice b1 xl d1, .slice b2 m2 d2] 25)).alloc (.cells #[.slice a1 xl c1, .slice a2 n2 c2] 25)).alloc (.cells #[.slice none 0 0, .slice none 0 0] 25)
  simp only [World.size_alloc] at t3 t4
  obtain ⟨w3, e3⟩ : ∃ w3, w3 = ((w.alloc (.cells #[.slice b1 xl d1, .slice b2 m2 d2] 25)).alloc (.cells #[.slice a1 xl c1, .slice a2 n2 c2] 25)).alloc (.cells #[.slice none 0 0, .slice none 0 0] 25) := ⟨_, rfl⟩
  rw [← e3] at t2 t3 t4 hcA ⊢
  have HA := Lib.hid (And.intro t2 (And.intro t3 (And.intro t4 hcA)))
  clear e3 t2 t3 t4 hcA
  go_loopg [5] xl (fun d iv wr => ∃ i : Nat, d = xl - i ∧ i ≤ xl ∧ iv = .int .i64 i ∧ Hid (∃ L, NamedTo xr gr i L ∧ FreshRules B wr b1 d1 L ∧ Chg (Value.slice b1 xl d1).ownBlock.toList w3 wr))
  case atStart => exact ⟨0, rfl, Nat.zero_le _, rfl, Lib.hid ⟨xr, namedTo_start xr gr, HA.out.2.2.2.row H.out.1 (fun _ _ => by simp), Chg.refl _ _⟩⟩
  case round =>
    obtain ⟨i, rfl, hi, rfl, hin⟩ := hrel
    obtain ⟨wq, rfl⟩ : ∃ wz, wz = wr := ⟨_, rfl⟩
    obtain ⟨L, hnt, hrow, hch⟩ := hin.out
    have hRl : ∀ j ∈ (Value.slice b1 xl d1).ownBlock.toList, B ≤ j ∧ j < w.heap.size := fun j hj => by
      simp only [Option.mem_toList] at hj
      have h1 := H.out.1
      rw [FreshRules, ← H.out.2.2.2.2.2] at h1
      exact ⟨(row_beyond h1 hj).1, (row_beyond h1 hj).2.1⟩
    have t2 := hch.heap HA.out.1 (fun hm => by have := hRl _ hm; omega)
    have t3 := hch.heap HA.out.2.1 (fun hm => by have := hRl _ hm; omega)
    have t4 := hch.heap HA.out.2.2.1 (fun hm => by have := hRl _ hm; omega)
    obtain ⟨x0, x1⟩ := cells2 t2
    obtain ⟨g0, g1⟩ := cells2 t3
    by_cases hlt : i < xl
    · have hiL : i < L.length := by have := hnt.1; have := H.out.2.2.2.2.2; omega
      have hig : i < gr.length := by have := H.out.2.2.1; omega
      obtain ⟨R, rfl, hBR, _, hc, hf, hput⟩ := rules_put hrow hiL
      obtain ⟨bg, og, rfl, hgn, -⟩ := H.out.2.1 i hig
      have hbg := H.out.2.2.2.2.1 i bg og rfl hig
      have hgn2 := hch.cell (HA.out.2.2.2.cell hgn (by simp)) (fun hm => by have := (hRl _ hm).1; simp only at this; omega)
      obtain ⟨nm, hnm⟩ : ∃ nm, nm = gr[i].name := ⟨_, rfl⟩
      rw [← hnm] at hgn2
      have hput2 : ∃ L', NamedTo xr gr (i + 1) L' ∧ FreshRules B (wq.setCell ⟨R, i * 2, none⟩ (.string nm)) (some ⟨R, 0, none⟩) d1 L' ∧ Chg (Value.slice (some ⟨R, 0, none⟩) xl d1).ownBlock.toList w3 (wq.setCell ⟨R, i * 2, none⟩ (.string nm)) := by
        obtain ⟨p1, p2⟩ := hput nm
        refine ⟨_, ?_, p1, hch.trans p2 (fun j hj => .inl (by simpa [Value.ownBlock] using hj))⟩
        rw [hnm]
        exact namedTo_next hnt H.out.2.2.2.1 hiL hig
      have HR := Lib.hid hput2
      obtain ⟨v0, hv0⟩ : ∃ v0, v0 = Value.string L[i].name := ⟨_, rfl⟩
      rw [← hv0] at hc
      clear hnt hrow hch t2 t3 t4 hRl hput hput2 hgn hnm hv0
      clear hiL hig
      go_wp2_with fail
      go_region
      all_goals go_wp2_with fail
      all_goals go_roundg (xl - (i + 1))
      case measure => omega
      case rel =>
        obtain ⟨L', q1, q2, q3⟩ := HR.out
        exact ⟨i + 1, rfl, by omega, by go_num, Lib.hid ⟨L', q1, q2.drew, q3.drew⟩⟩
    · obtain rfl : i = xl := by omega
      have y0 := (cells2 t4).1
      have y1 := (cells2 t4).2
      have f0 := free_of_cells t4 0
      have f1 := free_of_cells t4 1
      have HE := Lib.hid (And.intro hnt (And.intro hrow (And.intro hch (And.intro t4 hRl))))
      clear hnt hrow hch t2 t3 t4 hRl
      go_wp2_with fail
      clear x0 x1 g0 g1 y0 y1 f0 f1
      obtain ⟨hnt, hrow, hch, t4, hRl⟩ := HE.out
      have hc := ((Chg.refl [w.heap.size + 1 + 1] wq).setCell (p := ⟨w.heap.size + 1 + 1, 0, none⟩) (.inl (by simp)) (.slice b1 i d1)).setCell (p := ⟨w.heap.size + 1 + 1, 1, none⟩) (.inl (by simp)) (.slice b2 m2 d2)
      have hz := heap_setCell_same (heap_setCell_same t4 0 (.slice b1 i d1)) 1 (.slice b2 m2 d2)
      simp at hz
      obtain ⟨y0, y1⟩ := cells2 hz
      have hTl := lt_of_block hz
      refine bodyPost_ret (v := .agg #[.slice b1 i d1, .slice b2 m2 d2]) (by simp [results, Try.results54, go_sem, y0, y1, hTl]) rfl ?_
      have hrow2 := hc.rowOf hrow (fun k hk => by simp only [List.mem_singleton] at hk; subst hk; exact .of_cells t4 (by decide))
      have hend := namedTo_end hnt H.out.2.2.2.1 (by have := H.out.2.2.1; omega)
      rw [hend] at hrow2
      refine ⟨rfl, hrow2, ?_⟩
      exact (HA.out.2.2.2.any.tr hch).trans hc (fun j hj => .inr (by simp at hj; omega))
end Go.Proofs.Ytibgfgfmljhimaa

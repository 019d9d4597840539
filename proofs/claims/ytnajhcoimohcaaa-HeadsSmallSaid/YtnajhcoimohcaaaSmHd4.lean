/-
  Package heads: a place touched; a set of a stack's grown.
  Conditions: none.
-/
import Derived.Test.YtnajhcoimohcaaaSmHd3
set_option linter.unusedVariables false
set_option linter.unusedSimpArgs false
set_option linter.unnecessarySimpa false
namespace Go.Proofs.Ytnajhcoimohcaaa
open Go.RowKit Go.MapKept

def Fr.blk (x : Fr) (r : Nat) : Nat := if r = 0 then x.bt else x.bi
theorem apart_inj {l : List Fr} (h : (mapsOf l).Nodup) {i j r s : Nat} (hi : i < l.length) (hj : j < l.length) (hr : r < 2) (hs : s < 2) (e : l[i].blk r = l[j].blk s) : i = j ∧ r = s := by
  have hl : (mapsOf l).length = l.length * 2 := flat_len (fun x : Fr => [x.bt, x.bi]) 2 (fun _ => rfl) l
  have key : ∀ {i r : Nat} (hi : i < l.length) (hr : r < 2), (mapsOf l)[i * 2 + r]? = some (l[i].blk r) := fun {i r} hi hr => by
    have h1 := flat_get (fun x : Fr => [x.bt, x.bi]) 2 (fun _ => rfl) l i r hr
    rw [List.getElem?_eq_getElem hi, Option.bind_some] at h1
    have h2 : (mapsOf l)[i * 2 + r]? = [l[i].bt, l[i].bi][r]? := h1
    rw [h2]
    rcases (show r = 0 ∨ r = 1 by omega) with rfl | rfl <;> rfl
  have h3 := (List.getElem?_inj (by omega) h).1 ((key hi hr).trans ((congrArg some e).trans (key hj hs).symm))
  omega
theorem StackAt.isMap {w : World} {B : Nat} {a : Option Addr} {c : Nat} {l : List Fr} (h : StackAt w B a c l) {b : Nat} (hb : b ∈ mapsOf l) : ∃ es clock, w.heap[b]? = some (.map es clock) := by
  obtain ⟨x, hx, rfl | rfl⟩ := mem_mapsOf.1 hb
  · exact (h.sets x hx).1.map.block
  · exact (h.sets x hx).2.map.block
theorem StackAt.notMap {w : World} {B : Nat} {a : Option Addr} {c : Nat} {l : List Fr} (h : StackAt w B a c l) {k : Nat} {cs : Array Value} {t : TypeId} {m : Nat × Nat} (hk : w.heap[k]? = some (.cells cs t m)) : k ∉ mapsOf l := fun hm => by
  obtain ⟨es, cl, h1⟩ := h.isMap hm
  rw [hk] at h1
  cases h1
theorem StackAt.cellKeep {w w' : World} {S : List Nat} {B : Nat} {a : Option Addr} {c : Nat} {l : List Fr} (h : StackAt w B a c l) (hc : Chg S w w') (hS : ∀ x ∈ S, x ∈ mapsOf l) {p : Addr} {v : Value} (hp : w.cell? p = some v) : w'.cell? p = some v :=
  hc.cell hp (fun hm => by
    obtain ⟨es, cl, h1⟩ := h.isMap (hS _ hm)
    simp [World.cell?, h1] at hp)
theorem cells_setT {x y : Fr} (h1 : x.f.rule = y.f.rule) (h2 : x.f.place = y.f.place) (h3 : x.bt = y.bt) (h4 : x.bi = y.bi) (h5 : x.f.tnt = y.f.tnt) : x.cells = y.cells := by simp [Fr.cells, h1, h2, h3, h4, h5]
theorem frCells_set {l : List Fr} {i : Nat} (hi : i < l.length) {y : Fr} (h : y.cells = l[i].cells) : frCells (l.set i y) = frCells l := by
  unfold frCells
  rw [List.flatMap_def, List.flatMap_def, List.map_set, h]
  congr 1
  apply List.ext_getElem
  · simp
  · intro j h1 h2
    rw [List.getElem_set]
    split
    · rename_i e; subst e; simp
    · rfl
theorem mapsOf_set {l : List Fr} {i : Nat} (hi : i < l.length) {y : Fr} (h1 : y.bt = l[i].bt) (h2 : y.bi = l[i].bi) : mapsOf (l.set i y) = mapsOf l := by
  unfold mapsOf
  rw [List.flatMap_def, List.flatMap_def, List.map_set, h1, h2]
  congr 1
  apply List.ext_getElem
  · simp
  · intro j h3 h4
    rw [List.getElem_set]
    split
    · rename_i e; subst e; simp
    · rfl
/-- A set of an activation has grown. -/
theorem StackAt.setG {w w' : World} {B : Nat} {a : Option Addr} {c : Nat} {l : List Fr} (h : StackAt w B a c l) {i : Nat} (hi : i < l.length) {r : Nat} (hr : r < 2) (hc : Chg [l[i].blk r] w w') (y : Fr) (hy1 : y.bt = l[i].bt) (hy2 : y.bi = l[i].bi) (hcl : y.cells = l[i].cells)
    (hs : SetIs w' (l[i].blk r) (if r = 0 then y.f.tch else y.f.inv)) (ho : (if r = 0 then y.f.inv else y.f.tch) = if r = 0 then l[i].f.inv else l[i].f.tch) (hw : I64 y.f.rule ∧ I64 y.f.place) : StackAt w' B a c (l.set i y) := by
  have hm : l[i].blk r ∈ mapsOf l := mem_mapsOf.2 ⟨_, List.getElem_mem hi, by unfold Fr.blk; split; exact .inl rfl; exact .inr rfl⟩
  refine ⟨?_, ?_, fun x hx => ?_, by rw [mapsOf_set hi hy1 hy2]; exact h.apart, fun x hx => ?_⟩
  · rw [List.length_set]
    exact hc.heap h.top (fun hmm => by simp only [List.mem_singleton] at hmm; exact h.notMap h.top (hmm ▸ hm))
  · rw [List.length_set, frCells_set hi hcl]
    refine hc.row h.row (fun k hk hmm => ?_)
    simp only [List.mem_singleton] at hmm
    obtain ⟨_, _, cur, hcur⟩ := row_beyond h.row hk
    exact h.notMap hcur (hmm ▸ hm)
  · obtain ⟨j, hj, rfl⟩ := List.mem_iff_getElem.1 hx
    rw [List.length_set] at hj
    rw [List.getElem_set]
    split
    · rename_i e
      subst e
      rw [hy1, hy2]
      have hne : ∀ s, s < 2 → s ≠ r → l[i].blk s ∉ [l[i].blk r] := fun s hs2 hsr hmm => by
        simp only [List.mem_singleton] at hmm
        exact hsr (apart_inj h.apart hi hi hs2 hr hmm).2
      have h0 := h.sets _ (List.getElem_mem hi)
      rcases (show r = 0 ∨ r = 1 by omega) with rfl | rfl
      · simp only [if_true] at hs ho
        rw [ho]
        exact ⟨hs, h0.2.chg hc (hne 1 (by decide) (by decide))⟩
      · simp only [Nat.one_ne_zero, if_false] at hs ho
        rw [ho]
        exact ⟨h0.1.chg hc (hne 0 (by decide) (by decide)), hs⟩
    · rename_i e
      have h0 := h.sets _ (List.getElem_mem hj)
      have hne : ∀ s, s < 2 → l[j].blk s ∉ [l[i].blk r] := fun s hs2 hmm => by
        simp only [List.mem_singleton] at hmm
        exact e (apart_inj h.apart hj hi hs2 hr hmm).1.symm
      exact ⟨h0.1.chg hc (hne 0 (by decide)), h0.2.chg hc (hne 1 (by decide))⟩
  · rcases List.mem_or_eq_of_mem_set hx with hx | rfl
    · exact h.wf x hx
    · exact hw

def touchR (p : Int) (xs : List Int) (x : Fr) : Fr := ⟨touchF p xs x.f, x.bt, x.bi⟩
theorem touchR_cells (p : Int) (xs : List Int) (x : Fr) : (touchR p xs x).cells = x.cells := by
  unfold touchR touchF
  split <;> rfl
theorem fms_touch (p : Int) (xs : List Int) (l : List Fr) : fms (l.map (touchR p xs)) = touchS (fms l) p xs := by simp [fms, touchS, touchR]
def tlR (p : Int) (xs : List Int) (i : Nat) (l : List Fr) : List Fr := (l.take i).map (touchR p xs) ++ l.drop i
theorem tlR_len (p : Int) (xs : List Int) (i : Nat) (l : List Fr) : (tlR p xs i l).length = l.length := by simp [tlR]; omega
theorem tlR_get (p : Int) (xs : List Int) {i : Nat} {l : List Fr} (hi : i < l.length) : (tlR p xs i l)[i]'(by rw [tlR_len]; exact hi) = l[i] := by
  unfold tlR
  rw [List.getElem_append_right (by simp; omega)]
  simp only [List.length_map, List.length_take, List.getElem_drop]
  congr 1
  omega
theorem tlR_succ (p : Int) (xs : List Int) {i : Nat} {l : List Fr} (hi : i < l.length) : tlR p xs (i + 1) l = (tlR p xs i l).set i (touchR p xs l[i]) := by
  unfold tlR
  rw [List.set_append_right _ _ (by simp; omega), List.take_succ_eq_append_getElem hi, List.map_append, List.append_assoc]
  congr 1
  rw [List.length_map, List.length_take, Nat.min_eq_left (by omega), Nat.sub_self]
  rw [List.drop_eq_getElem_cons hi]
  rfl
theorem tlR_maps (p : Int) (xs : List Int) (i : Nat) (l : List Fr) : mapsOf (tlR p xs i l) = mapsOf l := by
  conv => rhs; rw [← List.take_append_drop i l]
  unfold tlR mapsOf
  rw [List.flatMap_append, List.flatMap_append, List.flatMap_map]
  rfl
def TouchP (w : World) (B : Nat) (a : Option Addr) (c : Nat) (l : List Fr) (p : Int) (xs : List Int) (e : Ending) (w' : World) : Prop :=
  e = .returned (.tuple #[]) ∧ StackAt w' B a c (l.map (touchR p xs)) ∧ Chg (mapsOf l) w w'

set_option maxRecDepth 100000 in
set_option maxHeartbeats 4000000 in
theorem touchS_any (w : World) (B : Nat) (a : Option Addr) (c : Nat) (l : List Fr) (h : StackAt w B a c l) (p : Int) (ax : Option Addr) (m cx : Nat) (xs : List Int) (hm : m = xs.length) (hcx : m ≤ cx) (hcm : cx ≤ 9223372036854775807) (hx : Ints w ax xs) (hwf : ∀ z ∈ xs, I64 z) :
    Calls Try.prog 47 #[.pointer (some ⟨B, 0, none⟩), .int .i64 p, .slice ax m cx] w (TouchP w B a c l p xs) := by
  obtain ⟨n, hn⟩ : ∃ n, n = l.length := ⟨_, rfl⟩
  obtain ⟨x0, x1⟩ := cells2 h.top
  rw [← hn] at x1
  have H := Lib.hid (And.intro h (And.intro hn (And.intro hm (And.intro hx hwf))))
  clear h hn hm hx hwf
  go_enter Try.func47, Try.ntmps47
  go_wp2_with fail
  clear x0 x1
  go_loopg [13] n (fun dd iv wr => ∃ i : Nat, dd = n - i ∧ i ≤ n ∧ iv = .int .i64 i ∧ Hid (StackAt wr B a c (tlR p xs i l) ∧ Chg (mapsOf l) w wr))
  case atStart => exact ⟨0, rfl, Nat.zero_le _, rfl, Lib.hid ⟨by simpa [tlR] using H.out.1, Chg.refl _ _⟩⟩
  case round =>
    obtain ⟨i, rfl, hi, rfl, hin⟩ := hrel
    obtain ⟨wq, rfl⟩ : ∃ wq, wq = wr := ⟨_, rfl⟩
    by_cases hil : i < n
    · have hiL : i < l.length := by have := H.out.2.1; omega
      have hiT : i < (tlR p xs i l).length := by rw [tlR_len]; exact hiL
      obtain ⟨y0, y1⟩ := cells2 hin.out.1.top
      rw [tlR_len, ← H.out.2.1] at y1
      obtain ⟨G, rfl, hc1, hc2, z0, z1, z2, z3, z4, -, hG, -⟩ := hin.out.1.at hiT
      rw [tlR_get p xs hiL] at z0 z1 z2 z3 z4
      rw [tlR_len] at hc1
      have hnc : n ≤ c := by have := H.out.2.1; omega
      obtain ⟨x, hxx⟩ : ∃ x, x = l[i] := ⟨_, rfl⟩
      rw [← hxx] at z0 z1 z2 z3 z4
      have hs1 := (hin.out.1.sets _ (List.getElem_mem hiT)).1
      rw [tlR_get p xs hiL, ← hxx] at hs1
      have hput := putS_any wq x.bt x.f.tch ax m cx xs H.out.2.2.1 hcx hcm (fun j hj => by
        obtain ⟨b, o, e, hcell⟩ := H.out.2.2.2.1 j hj
        exact ⟨b, o, e, H.out.1.cellKeep hin.out.2 (fun _ h => h) hcell⟩) H.out.2.2.2.2 hs1
      obtain ⟨⟨rule, place, tch, inv, tnt⟩, bt, bi⟩ := x
      simp only at z0 z1 z2 z3 z4 hput
      have HP := Lib.hid (And.intro hput hxx)
      have hi1 : (i : Int) < n := by omega
      clear hc1 hput hs1 hxx
      by_cases hpl : place = p
      · rw [hpl] at z1
        have HL := Lib.hid hpl
        clear hpl
        go_wp2_with fail
        refine HP.out.1.mono ?_
        rintro e w2 ⟨rfl, hs2, hcc⟩
        have hnew := hin.out.1.setG hiT (r := 0) (by decide) (w' := w2) (by rw [tlR_get p xs hiL, ← HP.out.2]; exact hcc) (touchR p xs l[i]) (by rw [tlR_get p xs hiL]; rfl) (by rw [tlR_get p xs hiL]; rfl) (by rw [tlR_get p xs hiL]; exact touchR_cells _ _ _) (by rw [tlR_get p xs hiL, ← HP.out.2]; simpa [touchR, touchF, Fr.blk, HL.out] using hs2) (by rw [tlR_get p xs hiL, ← HP.out.2]; simp [touchR, touchF, HL.out]) (by
          have := H.out.1.wf l[i] (List.getElem_mem hiL)
          rw [← HP.out.2] at this ⊢
          simpa [touchR, touchF, HL.out] using this)
        rw [← tlR_succ p xs hiL] at hnew
        have HN := Lib.hid (And.intro hnew (hin.out.2.trans hcc (fun j hj => .inl (by simp only [List.mem_singleton] at hj; subst hj; exact mem_mapsOf.2 ⟨_, List.getElem_mem hiL, by rw [← HP.out.2]; exact .inl rfl⟩))))
        clear hs2 hcc hnew y0 y1 z0 z1 z2 z3 z4
        go_wp2_with fail
        go_roundg (n - (i + 1))
        case measure => omega
        case rel => exact ⟨i + 1, rfl, by omega, by go_num, HN⟩
      · have hst : tlR p xs (i + 1) l = tlR p xs i l := by
          rw [tlR_succ p xs hiL]
          have e9 : touchR p xs l[i] = (tlR p xs i l)[i] := by
            rw [tlR_get p xs hiL, ← HP.out.2]
            simp [touchR, touchF, hpl]
          rw [e9, List.set_getElem_self]
        have HN : Hid (StackAt wq B (some ⟨G, 0, none⟩) c (tlR p xs (i + 1) l) ∧ Chg (mapsOf l) w wq) := Lib.hid (by rw [hst]; exact hin.out)
        clear hst
        go_wp2_with fail
        go_roundg (n - (i + 1))
        case measure => omega
        case rel => exact ⟨i + 1, rfl, by omega, by go_num, HN⟩
    · obtain rfl : i = n := by omega
      have hfin := hin.out.1
      have e9 : tlR p xs i l = l.map (touchR p xs) := by unfold tlR; rw [List.take_of_length_le (by have := H.out.2.1; omega), List.drop_eq_nil_of_le (by have := H.out.2.1; omega), List.append_nil]
      rw [e9] at hfin
      have HF := Lib.hid (And.intro hfin hin.out.2)
      clear hfin e9
      go_wp2_with fail
      refine bodyPost_ret (v := .tuple #[]) (by simp [results, Try.results47, go_sem]) rfl ?_
      exact ⟨rfl, HF.out.1, HF.out.2⟩
end Go.Proofs.Ytnajhcoimohcaaa

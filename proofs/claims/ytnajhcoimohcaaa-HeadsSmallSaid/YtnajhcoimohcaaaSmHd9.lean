/-
  Package heads: a pair read.
  Conditions: none.
-/
import Derived.Test.YtnajhcoimohcaaaSmHd7
set_option linter.unusedVariables false
set_option linter.unusedSimpArgs false
set_option linter.unnecessarySimpa false
namespace Go.Proofs.Ytnajhcoimohcaaa
open Go.RowKit Go.MapKept

theorem frCells_put {l : List Fr} {i r : Nat} (hi : i < l.length) (hr : r < 5) {y : Fr} {v : Value} (h : y.cells = l[i].cells.set r v) : (frCells l).set (i * 5 + r) v = frCells (l.set i y) := by
  apply List.ext_getElem?
  intro j
  have h1 := flat_get Fr.cells 5 (fun _ => rfl) l (j / 5) (j % 5) (Nat.mod_lt _ (by decide))
  have h2 := flat_get Fr.cells 5 (fun _ => rfl) (l.set i y) (j / 5) (j % 5) (Nat.mod_lt _ (by decide))
  rw [show j / 5 * 5 + j % 5 = j by omega] at h1 h2
  have h1' : (frCells l)[j]? = (l[j / 5]?).bind fun a => a.cells[j % 5]? := h1
  have h2' : (frCells (l.set i y))[j]? = ((l.set i y)[j / 5]?).bind fun a => a.cells[j % 5]? := h2
  rw [h2', List.getElem?_set, List.getElem?_set]
  by_cases e : i * 5 + r = j
  · rw [if_pos e, if_pos (show i * 5 + r < (frCells l).length by rw [frCells_len]; omega), if_pos (show i = j / 5 by omega), if_pos hi, Option.bind_some, h, show j % 5 = r by omega, List.getElem?_set_self (by show r < 5; exact hr)]
  · rw [if_neg e, h1']
    by_cases e2 : i = j / 5
    · rw [if_pos e2, if_pos hi, Option.bind_some, h, List.getElem?_set_ne (by omega), ← e2, List.getElem?_eq_getElem hi, Option.bind_some]
    · rw [if_neg e2]
/-- The one that stands as the i-th is tainted. -/
theorem StackAt.taint {w : World} {B G : Nat} {c : Nat} {l : List Fr} (h : StackAt w B (some ⟨G, 0, none⟩) c l) {i : Nat} (hi : i < l.length) :
    StackAt (w.setCell ⟨G, i * 5 + 4, none⟩ (.bool true)) B (some ⟨G, 0, none⟩) c (l.set i ⟨{ l[i].f with tnt := true }, l[i].bt, l[i].bi⟩) ∧ Chg [G] w (w.setCell ⟨G, i * 5 + 4, none⟩ (.bool true)) := by
  obtain ⟨_, _, _, ⟨cur, hcur⟩, hp⟩ := row_put h.row (i := i * 5 + 4) (by omega)
  obtain ⟨p1, p2⟩ := hp (.bool true)
  have hnm : ∀ {b : Nat}, b ∈ mapsOf l → b ∉ [G] := fun {b} hb hm => by
    simp only [List.mem_singleton] at hm
    exact h.notMap hcur (hm ▸ hb)
  refine ⟨⟨?_, ?_, fun x hx => ?_, by rw [mapsOf_set (y := ⟨{ l[i].f with tnt := true }, l[i].bt, l[i].bi⟩) hi rfl rfl]; exact h.apart, fun x hx => ?_⟩, p2⟩
  · rw [List.length_set]
    exact p2.heap h.top (fun hm => by simp only [List.mem_singleton] at hm; exact h.topNeRow (by rw [hm]; rfl))
  · rw [List.length_set, ← frCells_put hi (by decide : (4 : Nat) < 5) (v := .bool true) (by simp [Fr.cells])]
    exact p1
  · have key : ∀ y ∈ l, SetIs (w.setCell ⟨G, i * 5 + 4, none⟩ (.bool true)) y.bt y.f.tch ∧ SetIs (w.setCell ⟨G, i * 5 + 4, none⟩ (.bool true)) y.bi y.f.inv := fun y hy =>
      ⟨(h.sets y hy).1.chg p2 (hnm (mem_mapsOf.2 ⟨y, hy, .inl rfl⟩)), (h.sets y hy).2.chg p2 (hnm (mem_mapsOf.2 ⟨y, hy, .inr rfl⟩))⟩
    rcases List.mem_or_eq_of_mem_set hx with hx | rfl
    · exact key x hx
    · exact key l[i] (List.getElem_mem hi)
  · rcases List.mem_or_eq_of_mem_set hx with hx | rfl
    · exact h.wf x hx
    · exact h.wf l[i] (List.getElem_mem hi)

def rdF (k i : Nat) (R : List Int) (j : Nat) (x : Fr) : Fr :=
  if j = k then ⟨{ x.f with inv := addL x.f.inv R }, x.bt, x.bi⟩ else if k < j ∧ j < i then ⟨{ x.f with tnt := true }, x.bt, x.bi⟩ else x
theorem rdF_k (k i : Nat) (R : List Int) (x : Fr) : rdF k i R k x = ⟨{ x.f with inv := addL x.f.inv R }, x.bt, x.bi⟩ := by simp [rdF]
theorem rdF_mid {k i j : Nat} {R : List Int} {x : Fr} (h1 : k < j) (h2 : j < i) : rdF k i R j x = ⟨{ x.f with tnt := true }, x.bt, x.bi⟩ := by
  unfold rdF
  rw [if_neg (show ¬ j = k by omega), if_pos ⟨h1, h2⟩]
theorem rdF_out {k i j : Nat} {R : List Int} {x : Fr} (h1 : j ≠ k) (h2 : ¬ (k < j ∧ j < i)) : rdF k i R j x = x := by
  unfold rdF
  rw [if_neg h1, if_neg h2]
def rdR (k i : Nat) (l : List Fr) : List Int := ((l.drop (k + 1)).take (i - (k + 1))).map (·.f.rule)
def rl (k i : Nat) (l : List Fr) : List Fr := l.mapIdx (rdF k i (rdR k i l))
theorem rl_len (k i : Nat) (l : List Fr) : (rl k i l).length = l.length := by simp [rl]
theorem rl_get {k i j : Nat} {l : List Fr} (hj : j < l.length) : (rl k i l)[j]'(by rw [rl_len]; exact hj) = rdF k i (rdR k i l) j l[j] := by simp [rl]
theorem rdR_succ {k i : Nat} {l : List Fr} (hk : k < i) (hi : i < l.length) : rdR k (i + 1) l = rdR k i l ++ [l[i].f.rule] := by
  unfold rdR
  have h1 : i - (k + 1) < (l.drop (k + 1)).length := by rw [List.length_drop]; omega
  rw [show i + 1 - (k + 1) = i - (k + 1) + 1 by omega, List.take_succ_eq_append_getElem h1, List.map_append]
  congr 1
  have e : k + 1 + (i - (k + 1)) = i := by omega
  simp only [List.getElem_drop, List.map_cons, List.map_nil, e]
theorem rdR_start (k : Nat) (l : List Fr) : rdR k (k + 1) l = [] := by simp [rdR]
theorem rl_start {k : Nat} {l : List Fr} : rl k (k + 1) l = l := by
  apply List.ext_getElem
  · exact rl_len _ _ _
  · intro j h1 h2
    rw [rl_get h2, rdR_start]
    unfold rdF
    split
    · simp [addL]
    · rw [if_neg (by omega)]
theorem rl_succ {k i : Nat} {l : List Fr} (hk : k < i) (hi : i < l.length) :
    rl k (i + 1) l = ((rl k i l).set i ⟨{ l[i].f with tnt := true }, l[i].bt, l[i].bi⟩).set k ⟨{ (l[k]'(by omega)).f with inv := addS (addL (l[k]'(by omega)).f.inv (rdR k i l)) l[i].f.rule }, (l[k]'(by omega)).bt, (l[k]'(by omega)).bi⟩ := by
  apply List.ext_getElem
  · simp [rl_len]
  · intro j h1 h2
    rw [rl_len] at h1
    rw [rl_get h1, List.getElem_set, List.getElem_set]
    by_cases e1 : j = k
    · subst e1
      rw [rdF_k, if_pos rfl, rdR_succ hk hi, addL_snoc]
    · rw [if_neg (show ¬ k = j from fun h => e1 h.symm)]
      by_cases e2 : j = i
      · subst e2
        rw [rdF_mid hk (by omega), if_pos rfl]
      · rw [if_neg (show ¬ i = j from fun h => e2 h.symm), rl_get h1]
        by_cases e3 : k < j ∧ j < i
        · rw [rdF_mid e3.1 (by omega), rdF_mid e3.1 e3.2]
        · rw [rdF_out e1 (by omega), rdF_out e1 e3]
theorem fms_rl {k : Nat} {l : List Fr} {r p : Int} (hk : k < l.length) (h : atI (fms l) r p = k) : fms (rl k l.length l) = (fms l).mapIdx fun i f => if (i : Int) = atI (fms l) r p then { f with inv := addL f.inv (((fms l).drop (i + 1)).map (·.rule)) } else if atI (fms l) r p < i then { f with tnt := true } else f := by
  apply List.ext_getElem
  · simp [fms_len, rl_len]
  · intro j h1 h2
    rw [fms_len, rl_len] at h1
    rw [fms_get _ (by rw [rl_len]; exact h1), rl_get h1, List.getElem_mapIdx, fms_get l h1, h]
    by_cases e1 : j = k
    · subst e1
      rw [rdF_k, if_pos rfl]
      simp only
      congr 2
      unfold rdR fms
      rw [List.take_of_length_le (by rw [List.length_drop]; exact Nat.le_refl _), ← List.map_drop, List.map_map]
      rfl
    · rw [if_neg (show ¬ ((j : Int) = k) by omega)]
      by_cases e2 : k < j
      · rw [rdF_mid e2 h1, if_pos (show ((k : Int) < j) by omega)]
      · rw [rdF_out e1 (by omega), if_neg (show ¬ ((k : Int) < j) by omega)]
theorem rl_maps (k i : Nat) (l : List Fr) : mapsOf (rl k i l) = mapsOf l := by
  unfold mapsOf
  rw [List.flatMap_def, List.flatMap_def]
  congr 1
  apply List.ext_getElem
  · simp [rl_len]
  · intro j h1 h2
    simp only [List.length_map] at h1 h2
    rw [List.getElem_map, List.getElem_map, rl_get h2]
    unfold rdF
    split
    · rfl
    · split <;> rfl
theorem fpS_rl (B : Nat) (a : Option Addr) (c k i : Nat) (l : List Fr) : fpS B a c (rl k i l) = fpS B a c l := by
  unfold fpS
  rw [rl_maps, rl_len]
end Go.Proofs.Ytnajhcoimohcaaa
set_option linter.unusedVariables false
set_option linter.unusedSimpArgs false
set_option linter.unnecessarySimpa false
namespace Go.Proofs.Ytnajhcoimohcaaa
open Go.RowKit Go.MapKept

theorem rl_at {k i : Nat} {l : List Fr} (hk : k < i) (hi : i < l.length) : (rl k i l)[i]'(by rw [rl_len]; exact hi) = l[i] := by
  rw [rl_get hi, rdF_out (by omega) (by omega)]
theorem rl_k {k i : Nat} {l : List Fr} (hk : k < l.length) : (rl k i l)[k]'(by rw [rl_len]; exact hk) = ⟨{ l[k].f with inv := addL l[k].f.inv (rdR k i l) }, l[k].bt, l[k].bi⟩ := by
  rw [rl_get hk, rdF_k]

theorem readRound_any (wq : World) (B G c k i : Nat) (l : List Fr) (h : StackAt wq B (some ⟨G, 0, none⟩) c (rl k i l)) (hk : k < i) (hi : i < l.length) :
    Calls Try.prog 51 #[.map (some (l[k]'(by omega)).bi), .slice (some ⟨wq.heap.size, 0, none⟩) 1 1] ((wq.setCell ⟨G, i * 5 + 4, none⟩ (.bool true)).alloc (.cells #[.int .i64 l[i].f.rule] 3)) fun e w' => e = .returned (.tuple #[]) ∧ StackAt w' B (some ⟨G, 0, none⟩) c (rl k (i + 1) l) ∧ Chg (fpS B (some ⟨G, 0, none⟩) c l) wq w' := by
  have hkl : k < l.length := by omega
  have hiT : i < (rl k i l).length := by rw [rl_len]; exact hi
  have hkT : k < (rl k i l).length := by rw [rl_len]; exact hkl
  have hwi := h.wf _ (List.getElem_mem hiT)
  have hwk := h.wf _ (List.getElem_mem hkT)
  rw [rl_at hk hi] at hwi
  rw [rl_k hkl] at hwk
  have hT := h.taint hiT
  rw [rl_at hk hi] at hT
  obtain ⟨hT, hcT⟩ := hT
  obtain ⟨wt, ht⟩ : ∃ wt, wt = wq.setCell ⟨G, i * 5 + 4, none⟩ (.bool true) := ⟨_, rfl⟩
  rw [← ht] at hT hcT ⊢
  have hsz : wq.heap.size = wt.heap.size := by rw [ht]; simp [World.setCell]
  have hcA := (Chg.refl [] wt).alloc (.cells #[.int .i64 l[i].f.rule] 3)
  have hA := hT.chg0 hcA
  have hnew := heap_alloc_same wt (.cells #[.int .i64 l[i].f.rule] 3)
  have hkS : k < ((rl k i l).set i ⟨{ l[i].f with tnt := true }, l[i].bt, l[i].bi⟩).length := by rw [List.length_set]; exact hkT
  have ek : ((rl k i l).set i ⟨{ l[i].f with tnt := true }, l[i].bt, l[i].bi⟩)[k]'hkS = ⟨{ l[k].f with inv := addL l[k].f.inv (rdR k i l) }, l[k].bt, l[k].bi⟩ := by rw [List.getElem_set_ne (by omega), rl_k hkl]
  have hset := (hA.sets _ (List.getElem_mem hkS)).2
  rw [ek] at hset
  have hput := putS_any _ l[k].bi (addL l[k].f.inv (rdR k i l)) (some ⟨wq.heap.size, 0, none⟩) 1 1 [l[i].f.rule] rfl (by decide) (by decide) (fun j hj => ⟨wq.heap.size, 0, rfl, by
    have : j = 0 := by simpa using hj
    subst this
    rw [hsz]
    exact cell_of_cells hnew 0⟩) (fun z hz => by simp only [List.mem_singleton] at hz; subst hz; exact hwi.1) hset
  refine hput.mono ?_
  rintro e w2 ⟨rfl, hs2, hc2⟩
  refine ⟨rfl, ?_, ?_⟩
  · rw [rl_succ hk hi]
    exact hA.setG hkS (r := 1) (by decide) (w' := w2) (by rw [ek]; exact hc2) ⟨{ l[k].f with inv := addS (addL l[k].f.inv (rdR k i l)) l[i].f.rule }, l[k].bt, l[k].bi⟩ (by rw [ek]) (by rw [ek]) (by rw [ek]; rfl) (by rw [ek]; exact hs2) (by rw [ek]; rfl) hwk
  · refine ((hcT.mono (T := fpS B (some ⟨G, 0, none⟩) c l) (fun j hj => .inl ?_)).tr hcA.any).tr (hc2.mono (fun j hj => .inl ?_))
    · simp only [List.mem_singleton] at hj; subst hj; simp [fpS, Value.ownBlock]
    · simp only [List.mem_singleton] at hj; subst hj; exact fpS_maps (mem_mapsOf.2 ⟨_, List.getElem_mem hkl, .inr rfl⟩)

set_option maxRecDepth 100000 in
set_option maxHeartbeats 4000000 in
theorem readS_any (w : World) (B : Nat) (a : Option Addr) (c : Nat) (l : List Fr) (h : StackAt w B a c l) (r p : Int) (hr : I64 r) :
    Calls Try.prog 23 #[.pointer (some ⟨B, 0, none⟩), .int .i64 r, .int .i64 p] w (OpP w B a c l (readS (fms l) r p)) := by
  obtain ⟨x0, x1⟩ := cells2 h.top
  have h1 := isS_any w B true x0
  have H := Lib.hid (And.intro h hr)
  clear h hr x0 x1
  go_enter Try.func23, Try.ntmps23
  go_wp2_with fail
  refine h1.mono ?_
  clear h1
  rintro e w1 ⟨rfl, hc1⟩
  have H1 := Lib.hid (And.intro (H.out.1.chg0 hc1) hc1)
  clear hc1
  have hat := atS_any w1 B a c l H1.out.1 r p
  rcases atI_cases (fms l) r p with ⟨h0, -⟩ | ⟨k, hk, h0, -, -⟩
  · rw [h0] at hat
    have HA := Lib.hid h0
    clear h0
    go_wp2_with fail
    refine hat.mono ?_
    clear hat
    rintro e w2 ⟨rfl, hc2⟩
    have H2 := Lib.hid (And.intro (H1.out.1.chg0 hc2) (H1.out.2.tr hc2))
    clear hc2
    go_wp2_with fail
    go_ret
    refine ⟨a, c, l, ?_, H2.out.1, ?_, H2.out.2.any, fun x hx => .inl hx⟩
    · simp [readS, HA.out]
    · simp [readS, HA.out]
  · rw [h0] at hat
    rw [fms_len] at hk
    have HA := Lib.hid h0
    clear h0
    go_wp2_with fail
    refine hat.mono ?_
    clear hat
    rintro e w2 ⟨rfl, hc2⟩
    have hs2 := H1.out.1.chg0 hc2
    obtain ⟨y0, y1⟩ := cells2 hs2.top
    obtain ⟨G, rfl, hcc1, hcc2, -, -, -, z3, -, -, hG, -⟩ := hs2.at hk
    obtain ⟨n, hn⟩ : ∃ n, n = l.length := ⟨_, rfl⟩
    rw [← hn] at y1 hk hcc1
    obtain ⟨bi, hbi⟩ : ∃ b, b = (l[k]'(by omega)).bi := ⟨_, rfl⟩
    rw [← hbi] at z3
    have HR := Lib.hid (And.intro hs2 (And.intro (H1.out.2.tr hc2) (And.intro hn hbi)))
    have hk1 : (k : Int) < n := by omega
    clear hc2 hs2 hn hbi y0
    go_wp2_with fail
    clear y1 z3
    go_loopg [9] (n - (k + 1)) (fun dd iv wr => ∃ i : Nat, dd = n - i ∧ k < i ∧ i ≤ n ∧ iv = .int .i64 i ∧ Hid (StackAt wr B (some ⟨G, 0, none⟩) c (rl k i l) ∧ Chg (fpS B (some ⟨G, 0, none⟩) c l) w wr))
    case atStart => exact ⟨k + 1, rfl, by omega, by omega, by go_num, Lib.hid ⟨by rw [rl_start]; exact HR.out.1, HR.out.2.1.any⟩⟩
    case round =>
      obtain ⟨i, rfl, hki, hi, rfl, hin⟩ := hrel
      obtain ⟨wq, rfl⟩ : ∃ wq, wq = wr := ⟨_, rfl⟩
      by_cases hil : i < n
      · have hiL : i < l.length := by have := HR.out.2.2.1; omega
        have hiT : i < (rl k i l).length := by rw [rl_len]; exact hiL
        obtain ⟨y0, y1⟩ := cells2 hin.out.1.top
        rw [rl_len, ← HR.out.2.2.1] at y1
        obtain ⟨G', eG, -, -, z0, -, -, -, z4, zf, hG, cur, hcur⟩ := hin.out.1.at hiT
        cases eG
        rw [rl_at hki hiL] at z0 z4
        have hGB : G ≠ B := fun e => hin.out.1.topNeRow (by rw [e]; rfl)
        have hBG : B ≠ G := fun e => hGB e.symm
        have hround := readRound_any wq B G c k i l hin.out.1 hki hiL
        obtain ⟨ru, hru⟩ : ∃ z, z = l[i].f.rule := ⟨_, rfl⟩
        rw [← hru] at z0 hround
        rw [← HR.out.2.2.2] at hround
        have HP := Lib.hid hround
        have hi1 : (i : Int) < n := by omega
        have hf4 := zf (i * 5 + 4)
        clear hround hru hcur zf y0
        go_wp2_with fail
        refine HP.out.mono ?_
        rintro e w3 ⟨rfl, hs3, hc3⟩
        have HN := Lib.hid (And.intro hs3 (hin.out.2.tr hc3))
        clear hs3 hc3 y1 z0 z4
        go_wp2_with fail
        go_roundg (n - (i + 1))
        case measure => omega
        case rel => exact ⟨i + 1, rfl, by omega, by omega, by go_num, HN⟩
      · obtain rfl : i = n := by omega
        obtain ⟨y0, y1⟩ := cells2 hin.out.1.top
        rw [rl_len, ← HR.out.2.2.1] at y1
        have hca := (Chg.refl [] wq).alloc (.cells #[.int .i64 r] 3)
        have hnew := heap_alloc_same wq (.cells #[.int .i64 r] 3)
        have ht := touchS_any (wq.alloc (.cells #[.int .i64 r] 3)) B (some ⟨G, 0, none⟩) c _ (hin.out.1.chg0 hca) p (some ⟨wq.heap.size, 0, none⟩) 1 1 [r] rfl (by decide) (by decide) (fun j hj => ⟨wq.heap.size, 0, rfl, by
          have : j = 0 := by simpa using hj
          subst this
          exact cell_of_cells hnew 0⟩) (fun z hz => by simp only [List.mem_singleton] at hz; subst hz; exact H.out.2)
        have HT := Lib.hid (And.intro ht hca)
        clear hca hnew ht y0
        go_wp2_with fail
        refine HT.out.1.mono ?_
        rintro e w7 ⟨rfl, hs7, hc7⟩
        have H7 := Lib.hid (And.intro hs7 hc7)
        clear hs7 hc7 y1
        go_wp2_with fail
        go_ret
        have hE : readS (fms l) r p = (touchS (fms (rl k i l)) p [r], 0) := by
          have e9 := fms_rl (r := r) (p := p) (by have := HR.out.2.2.1; omega) HA.out
          rw [← HR.out.2.2.1] at e9
          unfold readS
          rw [if_neg (by rw [HA.out]; omega), e9]
        rw [hE]
        refine ⟨_, c, _, rfl, H7.out.1, ?_, (hin.out.2.tr HT.out.2.any).tr (H7.out.2.mono (fun j hj => .inl ?_)), fun x hx => .inl ?_⟩
        · rw [fms_touch]
        · rw [rl_maps] at hj
          exact fpS_maps hj
        · rwa [fpS_touch, fpS_rl] at hx
end Go.Proofs.Ytnajhcoimohcaaa

/-
  Package heads: a pair read, walked.
  Conditions: none.
-/
import Derived.Test.YtnajhcoimohcaaaDoHd8
set_option linter.unusedVariables false
set_option linter.unusedSimpArgs false
set_option linter.unnecessarySimpa false
namespace Go.Proofs.Ytnajhcoimohcaaa
open Go.RowKit Go.MapKept

theorem rl_at {k i : Nat} {l : List Fr} (hk : k < i) (hi : i < l.length) : (rl k i l)[i]'(by rw [rl_len]; exact hi) = l[i] := by
  rw [rl_get hi, rdF_out (by omega) (by omega)]
theorem rl_k {k i : Nat} {l : List Fr} (hk : k < l.length) : (rl k i l)[k]'(by rw [rl_len]; exact hk) = ⟨{ l[k].f with inv := addL l[k].f.inv (rdR k i l) }, l[k].bt, l[k].bi⟩ := by
  rw [rl_get hk, rdF_k]

theorem readRound_any (wq : World) (B G c k i : Nat) (l : List Fr) (h : StackAt wq B (some ⟨G, 0, none⟩) c (rl k i l)) (hk : k < i) (hi : i < l.length) :
    Calls Try.prog 51 #[.map (some (l[k]'(by omega)).bi), .slice (some ⟨wq.heap.size, 0, none⟩) 1 1] ((wq.setCell ⟨G, i * 5 + 4, none⟩ (.bool true)).alloc (.cells #[.int .i64 l[i].f.rule] 3)) fun e w' => e = .returned (.tuple #[]) ∧ StackAt w' B (some ⟨G, 0, none⟩) c (rl k (i + 1) l) ∧ Chg (fpS B (some ⟨G, 0, none⟩) c l) wq w' := by
  have hkl : k < l.length := by omega
  have hiT : i < (rl k i l).length := by rw [rl_len]; exact hi
  have hkT : k < (rl k i l).length := by rw [rl_len]; exact hkl
  have hwi := h.wf _ (List.getElem_mem hiT)
  have hwk := h.wf _ (List.getElem_mem hkT)
  rw [rl_at hk hi] at hwi
  rw [rl_k hkl] at hwk
  have hT := h.taint hiT
  rw [rl_at hk hi] at hT
  obtain ⟨hT, hcT⟩ := hT
  obtain ⟨wt, ht⟩ : ∃ wt, wt = wq.setCell ⟨G, i * 5 + 4, none⟩ (.bool true) := ⟨_, rfl⟩
  rw [← ht] at hT hcT ⊢
  have hsz : wq.heap.size = wt.heap.size := by rw [ht]; simp [World.setCell]
  have hcA := (Chg.refl [] wt).alloc (.cells #[.int .i64 l[i].f.rule] 3)
  have hA := hT.chg0 hcA
  have hnew := heap_alloc_same wt (.cells #[.int .i64 l[i].f.rule] 3)
  have hkS : k < ((rl k i l).set i ⟨{ l[i].f with tnt := true }, l[i].bt, l[i].bi⟩).length := by rw [List.length_set]; exact hkT
  have ek : ((rl k i l).set i ⟨{ l[i].f with tnt := true }, l[i].bt, l[i].bi⟩)[k]'hkS = ⟨{ l[k].f with inv := addL l[k].f.inv (rdR k i l) }, l[k].bt, l[k].bi⟩ := by rw [List.getElem_set_ne (by omega), rl_k hkl]
  have hset := (hA.sets _ (List.getElem_mem hkS)).2
  rw [ek] at hset
  have hput := putS_any _ l[k].bi (addL l[k].f.inv (rdR k i l)) (some ⟨wq.heap.size, 0, none⟩) 1 1 [l[i].f.rule] rfl (by decide) (by decide) (fun j hj => ⟨wq.heap.size, 0, rfl, by
    have : j = 0 := by simpa using hj
    subst this
    rw [hsz]
    exact cell_of_cells hnew 0⟩) (fun z hz => by simp only [List.mem_singleton] at hz; subst hz; exact hwi.1) hset
  refine hput.mono ?_
  rintro e w2 ⟨rfl, hs2, hc2⟩
  refine ⟨rfl, ?_, ?_⟩
  · rw [rl_succ hk hi]
    exact hA.setG hkS (r := 1) (by decide) (w' := w2) (by rw [ek]; exact hc2) ⟨{ l[k].f with inv := addS (addL l[k].f.inv (rdR k i l)) l[i].f.rule }, l[k].bt, l[k].bi⟩ (by rw [ek]) (by rw [ek]) (by rw [ek]; rfl) (by rw [ek]; exact hs2) (by rw [ek]; rfl) hwk
  · refine ((hcT.mono (T := fpS B (some ⟨G, 0, none⟩) c l) (fun j hj => .inl ?_)).tr hcA.any).tr (hc2.mono (fun j hj => .inl ?_))
    · simp only [List.mem_singleton] at hj; subst hj; simp [fpS, Value.ownBlock]
    · simp only [List.mem_singleton] at hj; subst hj; exact fpS_maps (mem_mapsOf.2 ⟨_, List.getElem_mem hkl, .inr rfl⟩)

set_option maxRecDepth 100000 in
set_option maxHeartbeats 4000000 in
theorem readS_any (w : World) (B : Nat) (a : Option Addr) (c : Nat) (l : List Fr) (h : StackAt w B a c l) (r p : Int) (hr : I64 r) :
    Calls Try.prog 23 #[.pointer (some ⟨B, 0, none⟩), .int .i64 r, .int .i64 p] w (OpP w B a c l (readS (fms l) r p)) := by
  obtain ⟨x0, x1⟩ := cells2 h.top
  have h1 := isS_any w B true x0
  have H := Lib.hid (And.intro h hr)
  clear h hr x0 x1
  go_enter Try.func23, Try.ntmps23
  go_wp2_with fail
  refine h1.mono ?_
  clear h1
  rintro e w1 ⟨rfl, hc1⟩
  have H1 := Lib.hid (And.intro (H.out.1.chg0 hc1) hc1)
  clear hc1
  have hat := atS_any w1 B a c l H1.out.1 r p
  rcases atI_cases (fms l) r p with ⟨h0, -⟩ | ⟨k, hk, h0, -, -⟩
  · rw [h0] at hat
    have HA := Lib.hid h0
    clear h0
    go_wp2_with fail
    refine hat.mono ?_
    clear hat
    rintro e w2 ⟨rfl, hc2⟩
    have H2 := Lib.hid (And.intro (H1.out.1.chg0 hc2) (H1.out.2.tr hc2))
    clear hc2
    go_wp2_with fail
    go_ret
    refine ⟨a, c, l, ?_, H2.out.1, ?_, H2.out.2.any, fun x hx => .inl hx⟩
    · simp [readS, HA.out]
    · simp [readS, HA.out]
  · rw [h0] at hat
    rw [fms_len] at hk
    have HA := Lib.hid h0
    clear h0
    go_wp2_with fail
    refine hat.mono ?_
    clear hat
    rintro e w2 ⟨rfl, hc2⟩
    have hs2 := H1.out.1.chg0 hc2
    obtain ⟨y0, y1⟩ := cells2 hs2.top
    obtain ⟨G, rfl, hcc1, hcc2, -, -, -, z3, -, -, hG, -⟩ := hs2.at hk
    obtain ⟨n, hn⟩ : ∃ n, n = l.length := ⟨_, rfl⟩
    rw [← hn] at y1 hk hcc1
    obtain ⟨bi, hbi⟩ : ∃ b, b = (l[k]'(by omega)).bi := ⟨_, rfl⟩
    rw [← hbi] at z3
    have HR := Lib.hid (And.intro hs2 (And.intro (H1.out.2.tr hc2) (And.intro hn hbi)))
    have hk1 : (k : Int) < n := by omega
    clear hc2 hs2 hn hbi y0
    go_wp2_with fail
    clear y1 z3
    go_loopg [9] (n - (k + 1)) (fun dd iv wr => ∃ i : Nat, dd = n - i ∧ k < i ∧ i ≤ n ∧ iv = .int .i64 i ∧ Hid (StackAt wr B (some ⟨G, 0, none⟩) c (rl k i l) ∧ Chg (fpS B (some ⟨G, 0, none⟩) c l) w wr))
    case atStart => exact ⟨k + 1, rfl, by omega, by omega, by go_num, Lib.hid ⟨by rw [rl_start]; exact HR.out.1, HR.out.2.1.any⟩⟩
    case round =>
      obtain ⟨i, rfl, hki, hi, rfl, hin⟩ := hrel
      obtain ⟨wq, rfl⟩ : ∃ wq, wq = wr := ⟨_, rfl⟩
      by_cases hil : i < n
      · have hiL : i < l.length := by have := HR.out.2.2.1; omega
        have hiT : i < (rl k i l).length := by rw [rl_len]; exact hiL
        obtain ⟨y0, y1⟩ := cells2 hin.out.1.top
        rw [rl_len, ← HR.out.2.2.1] at y1
        obtain ⟨G', eG, -, -, z0, -, -, -, z4, zf, hG, cur, hcur⟩ := hin.out.1.at hiT
        cases eG
        rw [rl_at hki hiL] at z0 z4
        have hGB : G ≠ B := fun e => hin.out.1.topNeRow (by rw [e]; rfl)
        have hBG : B ≠ G := fun e => hGB e.symm
        have hround := readRound_any wq B G c k i l hin.out.1 hki hiL
        obtain ⟨ru, hru⟩ : ∃ z, z = l[i].f.rule := ⟨_, rfl⟩
        rw [← hru] at z0 hround
        rw [← HR.out.2.2.2] at hround
        have HP := Lib.hid hround
        have hi1 : (i : Int) < n := by omega
        have hf4 := zf (i * 5 + 4)
        clear hround hru hcur zf y0
        go_wp2_with fail
        refine HP.out.mono ?_
        rintro e w3 ⟨rfl, hs3, hc3⟩
        have HN := Lib.hid (And.intro hs3 (hin.out.2.tr hc3))
        clear hs3 hc3 y1 z0 z4
        go_wp2_with fail
        go_roundg (n - (i + 1))
        case measure => omega
        case rel => exact ⟨i + 1, rfl, by omega, by omega, by go_num, HN⟩
      · obtain rfl : i = n := by omega
        obtain ⟨y0, y1⟩ := cells2 hin.out.1.top
        rw [rl_len, ← HR.out.2.2.1] at y1
        have hca := (Chg.refl [] wq).alloc (.cells #[.int .i64 r] 3)
        have hnew := heap_alloc_same wq (.cells #[.int .i64 r] 3)
        have ht := touchS_any (wq.alloc (.cells #[.int .i64 r] 3)) B (some ⟨G, 0, none⟩) c _ (hin.out.1.chg0 hca) p (some ⟨wq.heap.size, 0, none⟩) 1 1 [r] rfl (by decide) (by decide) (fun j hj => ⟨wq.heap.size, 0, rfl, by
          have : j = 0 := by simpa using hj
          subst this
          exact cell_of_cells hnew 0⟩) (fun z hz => by simp only [List.mem_singleton] at hz; subst hz; exact H.out.2)
        have HT := Lib.hid (And.intro ht hca)
        clear hca hnew ht y0
        go_wp2_with fail
        refine HT.out.1.mono ?_
        rintro e w7 ⟨rfl, hs7, hc7⟩
        have H7 := Lib.hid (And.intro hs7 hc7)
        clear hs7 hc7 y1
        go_wp2_with fail
        go_ret
        have hE : readS (fms l) r p = (touchS (fms (rl k i l)) p [r], 0) := by
          have e9 := fms_rl (r := r) (p := p) (by have := HR.out.2.2.1; omega) HA.out
          rw [← HR.out.2.2.1] at e9
          unfold readS
          rw [if_neg (by rw [HA.out]; omega), e9]
        rw [hE]
        refine ⟨_, c, _, rfl, H7.out.1, ?_, (hin.out.2.tr HT.out.2.any).tr (H7.out.2.mono (fun j hj => .inl ?_)), fun x hx => .inl ?_⟩
        · rw [fms_touch]
        · rw [rl_maps] at hj
          exact fpS_maps hj
        · rwa [fpS_touch, fpS_rl] at hx
end Go.Proofs.Ytnajhcoimohcaaa

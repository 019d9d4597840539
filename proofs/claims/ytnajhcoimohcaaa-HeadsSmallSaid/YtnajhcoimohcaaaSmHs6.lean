/-
  The statements' history: a step that leaves; any step.
  Conditions: none.
-/
import Derived.Test.YtnajhcoimohcaaaSmHs5
set_option linter.unusedVariables false
set_option linter.unusedSimpArgs false
set_option linter.unnecessarySimpa false
namespace Go.Proofs.Ytnajhcoimohcaaa
open Go.RowKit Go.MapKept

set_option maxRecDepth 100000 in
set_option maxHeartbeats 4000000 in
theorem leaveH_nil (b : Nat) (w : World) (H : Nat) (rs : List Rd) (ts : List Tc) (h : HP b w H [] [] rs ts) :
    Calls Try.prog 15 #[.pointer (some ⟨H, 0, none⟩)] w (OutH b w H [] [] rs ts true) := by
  obtain ⟨B, a, c, fr, x, hs, hh, hfp, hfr, hl, rfl, rfl⟩ := h
  obtain ⟨l, rs, ts, la, lc, ra, rc, ta, tc⟩ := x
  simp only at *
  subst hl
  have hfr : fr = [] := by simpa [fms] using hfr
  subst hfr
  obtain ⟨x0, -, -, -, -⟩ := cellsH5 hh.top
  have h1 := leaveS_nil w B a c hs
  have HH := Lib.hid (And.intro hs (And.intro hh hfp))
  clear hs hh hfp
  go_enter Try.func15, Try.ntmps15
  go_wp2_with fail
  refine h1.mono ?_
  clear h1
  rintro e w1 ⟨rfl, hc1⟩
  have hh1 := HH.out.2.1.chg0 hc1
  obtain ⟨x0, x1, -, -, -⟩ := cellsH5 hh1.top
  simp only [List.length_nil] at x1
  have hHl := lt_of_block hh1.top
  have hcc := hc1.alloc (.cells #[.int .i64 0, .int .i64 0, .slice none 0 0, .bool false] 65)
  have H1 := Lib.hid hcc
  have hw1 : IntKind.i64.wrap (0 - 1) = -1 := IntWalk.i64_in _ (by omega)
  clear hh1 hc1 hcc x0
  go_wp2_with fail
  go_ret
  exact ⟨rfl, ⟨B, a, c, [], _, HH.out.1.chg0 H1.out, HH.out.2.1.chg0 H1.out, HH.out.2.2, rfl, rfl, rfl, rfl⟩, .of0 H1.out⟩

set_option maxRecDepth 100000 in
set_option maxHeartbeats 8000000 in
theorem leaveH_any (b : Nat) (w : World) (H : Nat) (s : List Fm) (l : List Sd) (rs : List Rd) (ts : List Tc) (h : HP b w H s l rs ts) (hbw : b ≤ w.heap.size) (n : Nat) (hn : n + 1 = l.length) (hsn : s.length = l.length) (hn9 : n ≤ 1000) (f : Fm) (hf : s[n]? = some f) (g : Sd) (hg : l[n]? = some g) (hR : f.rule = g.rule) (hP : f.place = g.place) (hT : f.tnt = hangB rs g.since n)
    (hsz : f.tch.length ≤ 1000000) (htsz : ts.length ≤ 1000) (hin : ∀ z ∈ f.tch, tchB ts g.since g.place z = true) (hris : Rises f.tch) (hout : ∀ t ∈ ts, tchB ts g.since g.place t.rule = true → t.rule ∈ f.tch) :
    Calls Try.prog 15 #[.pointer (some ⟨H, 0, none⟩)] w (OutH b w H (s.take n) (l.take n) rs ts true) := by
  obtain ⟨B, a, c, fr, x, hs, hh, hfp, rfl, rfl, rfl, rfl⟩ := h
  obtain ⟨l, rs, ts, la, lc, ra, rc, ta, tc⟩ := x
  obtain ⟨rule, place, tch, inv, tnt⟩ := f
  obtain ⟨grule, gplace, since⟩ := g
  simp only at *
  subst hR
  subst hP
  have hfn : n + 1 = fr.length := by rw [hn, ← hsn, fms_len]
  have hfl : fr[n]? = some fr[n] := List.getElem?_eq_getElem (by omega)
  obtain ⟨⟨f9, bt, bi⟩, hy⟩ : ∃ y, y = fr[n]'(by omega) := ⟨_, rfl⟩
  have hlv := leaveS_any w B a c fr hs n hfn
  rw [← hy] at hlv hfl
  have e9 : f9 = ⟨rule, place, tch, inv, tnt⟩ := by
    simp only [fms, List.getElem?_map, hfl, Option.map_some, Option.some.injEq] at hf
    exact hf
  subst e9
  have hlv2 := hlv hsz
  obtain ⟨x0, -, -, -, -⟩ := cellsH5 hh.top
  obtain ⟨hgl, hgv⟩ := List.getElem?_eq_some_iff.1 hg
  have HH := Lib.hid (And.intro hs (And.intro hh (And.intro hfp (And.intro hbw (And.intro hn (And.intro hfn (And.intro hT (And.intro hin (And.intro hris (And.intro hout (⟨hgl, hgv⟩ : ∃ h : n < l.length, l[n] = _)))))))))))
  clear hs hh hfp hbw hn hfn hT hin hris hout hlv hgl hgv hg hsn hfl hf hy
  go_enter Try.func15, Try.ntmps15
  go_wp2_with fail
  refine hlv2.mono ?_
  clear hlv2
  rintro e w1 ⟨pa, pn, pc, rfl, hpn, hpf, hs1, hc1⟩
  have hh1 := HH.out.2.1.chg hc1 (fun k hk hm => hist_apart HH.out.1 HH.out.2.1 (show k ∈ fpS B a c fr by simp only [List.mem_singleton] at hm; simp [fpS, hm]) hk)
  obtain ⟨x0, x1, -, x3, -⟩ := cellsH5 hh1.top
  simp only at x1 x3
  rw [← HH.out.2.2.2.2.1] at x1
  have hHl := lt_of_block hh1.top
  simp only at hpn
  have H1 := Lib.hid (And.intro hs1 (And.intro hh1 (And.intro hc1 (And.intro hpf hpn))))
  have hw1 : IntKind.i64.wrap (((n + 1 : Nat) : Int) - 1) = n := by rw [show ((n + 1 : Nat) : Int) - 1 = n by omega]; exact IntWalk.i64_in _ (by omega)
  have hd0 : decide ((n : Int) < 0) = false := decide_eq_false (by omega)
  clear hs1 hh1 hc1 hpf hpn x0 x3
  go_wp2_with fail
  -- the region of the three tests
  have hca := (Chg.refl [] w1).alloc (.cells #[.int .i64 rule, .int .i64 place, .slice pa pn pc, .bool tnt] 65)
  have hnew := heap_alloc_same w1 (.cells #[.int .i64 rule, .int .i64 place, .slice pa pn pc, .bool tnt] 65)
  obtain ⟨ws, es⟩ : ∃ z, z = w1.alloc (.cells #[.int .i64 rule, .int .i64 place, .slice pa pn pc, .bool tnt] 65) := ⟨_, rfl⟩
  rw [← es] at hca hnew ⊢
  have hhs := H1.out.2.1.chg0 hca
  obtain ⟨-, x1, -, x3, -⟩ := cellsH5 hhs.top
  simp only at x1 x3
  rw [← HH.out.2.2.2.2.1] at x1
  obtain ⟨hgl, hgv⟩ := HH.out.2.2.2.2.2.2.2.2.2.2
  obtain ⟨G, eG, hc1, hc2, z0, z1, -⟩ := hhs.sdAt (i := n) hgl
  simp only at eG hc1 hc2 z0 z1
  subst eG
  rw [hgv] at z0 z1
  simp only at z0 z1
  rw [← HH.out.2.2.2.2.1] at hc1
  have cA := calls_rg (w := ws) (fun W hW => hangs_any b W H B _ (hhs.chg0 hW) n hgl)
  simp only at cA
  rw [show (⟨l, rs, ts, some ⟨G, 0, none⟩, lc, ra, rc, ta, tc⟩ : Hst).l[n].since = since by show l[n].since = _; rw [hgv]] at cA
  rw [← HH.out.2.2.2.2.2.2.1] at cA
  obtain ⟨r0, r1, r2, r3⟩ := cellsL4 hnew
  have k1 := cell_rg x1
  have kz0 := cell_rg z0
  have kz1 := cell_rg z1
  have kr0 := cell_rg r0
  have kr1 := cell_rg r1
  have kr3 := cell_rg r3
  have HS := Lib.hid (And.intro hhs (And.intro hnew hca))
  have hnb : (tnt != tnt) = false := by cases tnt <;> rfl
  clear hhs hnew hca es x1 x3 z0 z1 r0 r1 r2 r3 hgl hgv hHl
  refine wp_region_quiet_below (by kernel_rfl) (by kernel_rfl) ?_
  repeat (go_big_quiet_step (with_reducible exact cA _ _))
  refine wpQuiet_nil ?_
  intro w4 hw4
  have hcq := chg_of_rg hw4
  have HQ := Lib.hid hcq
  clear hw4 cA k1 kz0 kz1 kr0 kr1 kr3
  obtain ⟨r0, r1, r2, r3⟩ := cellsL4 (hcq.heap HS.out.2.1 (by simp))
  clear hcq
  go_wp2_with fail
  clear r0 r1 r2 r3
  go_loopg [6] pn (fun dd iv wr => ∃ i : Nat, dd = pn - i ∧ i ≤ pn ∧ iv = .int .i64 i ∧ Hid (Chg [] ws wr))
  case atStart => exact ⟨0, rfl, Nat.zero_le _, rfl, Lib.hid HQ.out⟩
  case round =>
    obtain ⟨i, rfl, hi, rfl, hI⟩ := hrel
    obtain ⟨wq, rfl⟩ : ∃ wq, wq = wr := ⟨_, rfl⟩
    obtain ⟨r0, r1, r2, r3⟩ := cellsL4 (hI.out.heap HS.out.2.1 (by simp))
    have hsmall : (pn : Int) ≤ 1000000 := by have := H1.out.2.2.2.2; omega
    by_cases hil : i < pn
    · have hiL : i < tch.length := by have := H1.out.2.2.2.2; omega
      have hhq := HS.out.1.chg0 hI.out
      obtain ⟨hgl, hgv⟩ := HH.out.2.2.2.2.2.2.2.2.2.2
      have hown := (H1.out.2.2.2.1.own)
      rw [← H1.out.2.2.2.2] at hown
      obtain ⟨hints, -, hpc1, hpc2⟩ := ownInts_read hown
      obtain ⟨g, o, eg, y0⟩ := hints i hiL
      subst eg
      obtain ⟨z, hz⟩ : ∃ z, z = tch[i] := ⟨_, rfl⟩
      rw [← hz] at y0
      have y1 := hI.out.cell (HS.out.2.2.cell y0 (by simp)) (by simp)
      have cA := calls_rg (w := wq) (fun W hW => touched_any b W H B _ (hhq.chg0 hW) n hgl z)
      simp only at cA
      rw [hgv] at cA
      simp only at cA
      rw [HH.out.2.2.2.2.2.2.2.1 z (by rw [hz]; exact List.getElem_mem hiL)] at cA
      have hpcm : pc ≤ 9223372036854775807 := by simpa only [maxLen] using hpc2
      have k2 := cell_rg r2
      have ky := cell_rg y1
      have hi1 : (i : Int) < pn := by omega
      by_cases hi0 : i = 0
      · have hd1 : decide ((0 : Int) < (i : Int)) = false := decide_eq_false (by omega)
        have hd2 : decide (0 < i) = false := decide_eq_false (by omega)
        clear hi0
        clear hhq hown hints hpc2 y0 y1 hz hgl hgv hiL
        go_wp2_with fail
        clear r0 r1 r2 r3
        refine wp_region_quiet_below (by kernel_rfl) (by kernel_rfl) ?_
        repeat (go_big_quiet_step (with_reducible exact cA _ _))
        refine wpQuiet_nil ?_
        intro w5 hw5
        have HQ5 := Lib.hid (hI.out.tr (chg_of_rg hw5))
        clear hw5 cA k2 ky
        go_wp2_with fail
        go_roundg (pn - (i + 1))
        case measure => omega
        case rel => exact ⟨i + 1, rfl, by omega, by go_num, HQ5⟩
      · obtain ⟨j, rfl⟩ : ∃ j, i = j + 1 := ⟨i - 1, by omega⟩
        have hd1 : decide ((0 : Int) < ((j + 1 : Nat) : Int)) = true := decide_eq_true (by omega)
        obtain ⟨g2, o2, eg2, y2⟩ := hints j (by omega)
        cases eg2
        obtain ⟨zp, hzp⟩ : ∃ z, z = tch[j]'(by omega) := ⟨_, rfl⟩
        rw [← hzp] at y2
        have hlt : zp < z := by
          rw [hz, hzp]
          exact List.pairwise_iff_getElem.1 HH.out.2.2.2.2.2.2.2.2.1 j (j + 1) (by omega) hiL (by omega)
        have hge : decide (z ≤ zp) = false := decide_eq_false (by omega)
        have hws : IntKind.i64.wrap (((j + 1 : Nat) : Int) - 1) = j := by rw [show ((j + 1 : Nat) : Int) - 1 = j by omega]; exact IntWalk.i64_in _ (by omega)
        have ky2 := cell_rg (hI.out.cell (HS.out.2.2.cell y2 (by simp)) (by simp))
        have hj1 : (j : Int) < pn := by omega
        clear hhq hown hints hpc2 y0 y1 y2 hz hzp hgl hgv hiL hlt
        go_wp2_with fail
        clear r0 r1 r2 r3
        refine wp_region_quiet_below (by kernel_rfl) (by kernel_rfl) ?_
        repeat (go_big_quiet_step (with_reducible exact cA _ _))
        refine wpQuiet_nil ?_
        intro w5 hw5
        have HQ5 := Lib.hid (hI.out.tr (chg_of_rg hw5))
        clear hw5 cA k2 ky ky2
        go_wp2_with fail
        go_roundg (pn - (j + 1 + 1))
        case measure => omega
        case rel => exact ⟨j + 1 + 1, rfl, by omega, by go_num, HQ5⟩
    · obtain rfl : i = pn := by omega
      have hhq := HS.out.1.chg0 hI.out
      obtain ⟨-, x1, -, x3, -⟩ := cellsH5 hhq.top
      simp only at x1 x3
      obtain ⟨nt, hnt⟩ : ∃ n, n = ts.length := ⟨_, rfl⟩
      rw [← hnt] at x3 htsz
      have HT := Lib.hid hnt
      clear hhq hnt x1
      go_wp2_with fail
      clear r0 r1 r2 r3 x3
      go_loopg [7] nt (fun dd iv wr => ∃ i : Nat, dd = nt - i ∧ i ≤ nt ∧ iv = .int .i64 i ∧ Hid (Chg [] ws wr))
      case atStart => exact ⟨0, rfl, Nat.zero_le _, rfl, hI⟩
      case round =>
        obtain ⟨m, rfl, hm, rfl, hM⟩ := hrel
        obtain ⟨wq, rfl⟩ : ∃ wq, wq = wr := ⟨_, rfl⟩
        obtain ⟨r0, r1, r2, r3⟩ := cellsL4 (hM.out.heap HS.out.2.1 (by simp))
        have hhq := HS.out.1.chg0 hM.out
        obtain ⟨-, x1, -, x3, -⟩ := cellsH5 hhq.top
        simp only at x1 x3
        rw [← HT.out] at x3
        rw [← HH.out.2.2.2.2.1] at x1
        have hHl := lt_of_block hhq.top
        by_cases hml : m < nt
        · have hmL : m < ts.length := by have := HT.out; omega
          obtain ⟨hgl, hgv⟩ := HH.out.2.2.2.2.2.2.2.2.2.2
          obtain ⟨G2, eG2, hd1, hd2, -, v1, -⟩ := hhq.tcAt hmL
          simp only at eG2 hd1 hd2 v1
          subst eG2
          rw [← HT.out] at hd1
          obtain ⟨z, hz⟩ : ∃ z, z = ts[m].rule := ⟨_, rfl⟩
          rw [← hz] at v1
          have hown := (H1.out.2.2.2.1.own)
          rw [← H1.out.2.2.2.2] at hown
          obtain ⟨hints, -, hpc1, hpc2⟩ := ownInts_read hown
          have hpcm : pc ≤ 9223372036854775807 := by simpa only [maxLen] using hpc2
          have hintq : Ints wq pa tch := fun j hj => by
            obtain ⟨g, o, eg, y⟩ := hints j hj
            exact ⟨g, o, eg, hM.out.cell (HS.out.2.2.cell y (by simp)) (by simp)⟩
          obtain ⟨bb, hbb⟩ : ∃ x, x = tchB ts since place z := ⟨_, rfl⟩
          have cA := calls_rg (w := wq) (fun W hW => touched_any b W H B _ (hhq.chg0 hW) n hgl z)
          simp only at cA
          rw [hgv] at cA
          simp only at cA
          rw [← hbb] at cA
          have cB := calls_rg (w := wq) (fun W hW => has_any W pa i pc tch H1.out.2.2.2.2 hpc1 hpcm (fun j hj => by
            obtain ⟨g, o, eg, y⟩ := hintq j hj
            exact ⟨g, o, eg, hW.cell y (by simp)⟩) z)
          have hhas : bb = true → decide (z ∈ tch) = true := fun e => decide_eq_true (by
            have := HH.out.2.2.2.2.2.2.2.2.2.1 ts[m] (List.getElem_mem hmL) (by rw [← hz, ← hbb]; exact e)
            rw [hz]; exact this)
          have k2 := cell_rg r2
          have k3 := cell_rg x3
          have kv := cell_rg v1
          have hm1 : (m : Int) < nt := by omega
          clear hhq hown hints hpc2 hz hgl hgv hmL hintq hbb v1 x1
          cases bb with
          | false =>
            clear hhas
            go_wp2_with fail
            clear r0 r1 r2 r3 x3
            refine wp_region_quiet_below (by kernel_rfl) (by kernel_rfl) ?_
            repeat (go_big_quiet_step (first | (with_reducible exact cA _ _) | (with_reducible exact cB _ _)))
            refine wpQuiet_nil ?_
            intro w5 hw5
            have HQ5 := Lib.hid (hM.out.tr (chg_of_rg hw5))
            clear hw5 cA cB k2 k3 kv
            go_wp2_with fail
            go_roundg (nt - (m + 1))
            case measure => omega
            case rel => exact ⟨m + 1, rfl, by omega, by go_num, HQ5⟩
          | true =>
            have hhas2 := hhas rfl
            rw [hhas2] at cB
            clear hhas hhas2
            go_wp2_with fail
            clear r0 r1 r2 r3 x3
            refine wp_region_quiet_below (by kernel_rfl) (by kernel_rfl) ?_
            repeat (go_big_quiet_step (first | (with_reducible exact cA _ _) | (with_reducible exact cB _ _)))
            refine wpQuiet_nil ?_
            intro w5 hw5
            have HQ5 := Lib.hid (hM.out.tr (chg_of_rg hw5))
            clear hw5 cA cB k2 k3 kv
            go_wp2_with fail
            go_roundg (nt - (m + 1))
            case measure => omega
            case rel => exact ⟨m + 1, rfl, by omega, by go_num, HQ5⟩
        · obtain rfl : m = nt := by omega
          have hpop := hhq.popL (n := n) HH.out.2.2.2.2.1
          simp only at hpop
          have hsq := ((H1.out.1.chg0 HS.out.2.2).chg0 hM.out)
          have hcw : Chg [B] w wq := (H1.out.2.2.1.tr0 HS.out.2.2).tr0 hM.out
          have HE := Lib.hid (And.intro hpop (And.intro hsq (And.intro hhq hcw)))
          have fH1 := free_of_cells hhq.top 1
          have hnc : n ≤ lc := by omega
          clear hhq hpop hsq hcw
          go_wp2_with fail
          go_ret
          obtain ⟨w8, e8⟩ : ∃ z, z = wq.setCell ⟨H, 1, none⟩ (.slice (some ⟨G, 0, none⟩) n lc) := ⟨_, rfl⟩
          have hpop := HE.out.1
          rw [← e8] at hpop ⊢
          have hmaps : ∀ k ∈ fpS B a c (fr.take n), b ≤ k := fun k hk => HH.out.2.2.1 k (by
            simp only [fpS, List.mem_cons, List.mem_append, Option.mem_toList] at hk ⊢
            rcases hk with h | h | h
            · exact .inl h
            · exact .inr (.inl (by cases a <;> exact h))
            · exact .inr (.inr ((mapsOf_take n fr).subset h)))
          refine ⟨rfl, ⟨B, a, c, fr.take n, _, HE.out.2.1.keepH HE.out.2.2.1 (hpop.2.1.mono (fun j hj => .inl (by simp only [List.mem_singleton] at hj; simp [fpH, hj]))), hpop.1, hmaps, by simp [fms, List.map_take], rfl, rfl, rfl⟩, (ChgB.ofS HH.out.1 HH.out.2.2.1 (HE.out.2.2.2.mono (fun j hj => .inl (by simp only [List.mem_singleton] at hj; simp [fpS, hj])))).tr (.ofH HE.out.2.2.1 (hpop.2.1.mono (fun j hj => .inl (by simp only [List.mem_singleton] at hj; simp [fpH, hj]))))⟩
end Go.Proofs.Ytnajhcoimohcaaa

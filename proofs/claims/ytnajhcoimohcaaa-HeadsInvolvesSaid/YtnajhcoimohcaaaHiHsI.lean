/-
  HeadsInvolves: the walk.
  Conditions: none.
-/
import Derived.Test.YtnajhcoimohcaaaHiHsI2
set_option linter.unusedVariables false
set_option linter.unusedSimpArgs false
set_option linter.unnecessarySimpa false
namespace Go.Proofs.Ytnajhcoimohcaaa
open Go.RowKit Go.MapKept

theorem Try.infoIntsRow : (Try.prog.info? 38).map (fun i => (i.zero, i.size, i.bytes)) = some (some (.slice none 0 0), 1, 24) := by kernel_rfl
theorem Try.infoIntEl : (Try.prog.info? 3).map (fun i => (i.zero, i.size, i.bytes)) = some (some (.int .i64 0), 1, 8) := by kernel_rfl
theorem InOK.few {k : Nat} {X : Stt} {L : List (List Int)} (h : InOK k X L) (hI : HIv k X) (hk : k ≤ 1000) : ∀ f ∈ X.s, f.inv.length ≤ 1000000 := fun f hf => by
  obtain ⟨i, hi, hv⟩ := List.mem_iff_getElem.1 hf
  have h1 : X.s[i]? = some f := by rw [List.getElem?_eq_getElem hi, hv]
  have hl : i < L.length := by rw [h.len, ← hI.len]; exact hi
  have h2 := h.ok i f _ h1 (List.getElem?_eq_getElem hl)
  have := h2.size
  have := h2.few
  omega
theorem map_zs {l : List Ri} {L : List (List Int)} (h : l.map (·.zs) = L) {q : Nat} (hq : q < L.length) : ∃ r, l[q]? = some r ∧ L[q]? = some r.zs := by
  subst h
  have hq2 : q < l.length := by simpa using hq
  exact ⟨l[q], List.getElem?_eq_getElem hq2, by rw [List.getElem?_map, List.getElem?_eq_getElem hq2]; rfl⟩
theorem stepL_grow {X Y : Stt} {L : List (List Int)} (hL : L.length = X.l.length) (hr : Y.rs.length = X.rs.length) (hl : Y.l.length = X.l.length + 1) : stepL X Y L = L ++ [[]] := by
  unfold stepL
  rw [if_neg (by omega), if_pos (by omega), List.take_of_length_le (by simp; omega)]
theorem stepL_cut {X Y : Stt} {L : List (List Int)} (hL : L.length = X.l.length) (hr : Y.rs.length = X.rs.length) (hl : Y.l.length ≤ X.l.length) : stepL X Y L = L.take Y.l.length := by
  unfold stepL
  rw [if_neg (by omega), if_neg (by omega)]
theorem stepL_read {X Y : Stt} {L : List (List Int)} {r : Rd} {W : Nat} (hL : L.length = X.l.length) (hr : Y.rs = X.rs ++ [r]) (hl : Y.l = X.l) (hW : r.pos = W) : stepL X Y L = L.set W (L.getD W [] ++ (Y.l.drop (W + 1)).map (·.rule)) := by
  unfold stepL
  rw [hr, hl, if_pos (by simp), List.getElem?_append_right (Nat.le_refl _), Nat.sub_self, if_neg (Nat.lt_irrefl _), List.take_of_length_le (by omega)]
  simp only [List.getElem?_cons_zero, hW, Int.toNat_natCast]
def rulesTo (X : Stt) (W q : Nat) : List Int := ((X.l.drop (W + 1)).take (q - (W + 1))).map (·.rule)
theorem rulesTo_succ {X : Stt} {W q : Nat} (h1 : W < q) {g : Sd} (hg : X.l[q]? = some g) : rulesTo X W (q + 1) = rulesTo X W q ++ [g.rule] := by
  obtain ⟨hq, hv⟩ := List.getElem?_eq_some_iff.1 hg
  unfold rulesTo
  have hd : q - (W + 1) < (X.l.drop (W + 1)).length := by rw [List.length_drop]; omega
  rw [show q + 1 - (W + 1) = q - (W + 1) + 1 by omega, List.take_succ_eq_append_getElem hd]
  simp only [List.map_append, List.map_cons, List.map_nil, List.getElem_drop]
  congr 2
  rw [← hv]
  congr 2
  omega
theorem rulesTo_zero (X : Stt) (W : Nat) : rulesTo X W (W + 1) = [] := by simp [rulesTo]
theorem setD_same (L : List (List Int)) (W : Nat) : L.set W (L.getD W []) = L := by
  refine List.ext_getElem? fun i => ?_
  by_cases h : i = W
  · subst h
    by_cases hl : i < L.length
    · rw [List.getElem?_set_self hl, List.getD_eq_getElem?_getD, List.getElem?_eq_getElem hl]; rfl
    · rw [List.getElem?_eq_none (by simp; omega), List.getElem?_eq_none (by omega)]
  · rw [List.getElem?_set_ne (fun e => h e.symm)]
theorem rulesTo_all {X : Stt} {W : Nat} (m : Nat) (hm : m = X.l.length) : rulesTo X W m = (X.l.drop (W + 1)).map (·.rule) := by
  unfold rulesTo
  rw [List.take_of_length_le (by rw [List.length_drop]; omega)]

set_option maxRecDepth 100000 in
set_option maxHeartbeats 16000000 in
theorem headsInvolves_any (w : World) (a : Option Addr) (n c : Nat) (ds : List Stp) (hn : n = ds.length) (hc : n ≤ c) (hcm : c ≤ 9223372036854775807) (hd : Steps w a ds) (hwf : ∀ y ∈ ds, I64 y.what ∧ I64 y.rule) :
    Calls Try.prog 3 #[.slice a n c] w fun e w' => e = .returned (.bool true) ∧ Chg [] w w' := by
  obtain ⟨b, hb⟩ : ∃ b, b = w.heap.size := ⟨_, rfl⟩
  have HD := Lib.hid (And.intro hn (And.intro hd (And.intro hwf hb)))
  have hbw : b ≤ w.heap.size := by omega
  clear hn hd hwf hb
  go_enter Try.func3, Try.ntmps3
  go_wp2_with fail
  refine (awake20_any w).mono ?_
  rintro e w1 ⟨rfl, c1⟩
  have hbw1 : b ≤ w1.heap.size := by have := c1.size; omega
  have H1 := Lib.hid c1
  clear c1
  by_cases hmany : 100 < n
  · have hd1 : decide ((100 : Int) < (n : Int)) = true := decide_eq_true (by omega)
    go_wp2_with fail
    go_ret
    exact ⟨rfl, H1.out⟩
  have hd1 : decide ((100 : Int) < (n : Int)) = false := decide_eq_false (by omega)
  have h2 := newSP w1
  go_wp2_with fail
  refine h2.mono ?_
  clear h2
  rintro e w2 ⟨rfl, h2, c2'⟩
  have hsp : SP b w2 w1.heap.size [] := by
    obtain ⟨a, c, l, g1, g2, g3⟩ := h2
    exact ⟨a, c, l, g1, g2, fun k hk => by have := g3 k hk; omega⟩
  have hbw2 : b ≤ w2.heap.size := by have := c2'.size; omega
  have hx := hist_new hsp rfl hbw2
  have hca := (Chg.refl [] w2).alloc (.cells #[.pointer (some ⟨w1.heap.size, 0, none⟩), .slice none 0 0, .slice none 0 0, .slice none 0 0, .int .i64 0] 31)
  obtain ⟨H, hH⟩ : ∃ H, H = w2.heap.size := ⟨_, rfl⟩
  rw [← hH] at hx
  have HX := Lib.hid (And.intro hx (And.intro ((ChgB.of0 (b := b) (H1.out.tr (c2'.tr hca))).toA) hH))
  clear h2 hsp hx hca c2' hH
  go_wp2_with fail
  rw [← HX.out.2.2]
  go_loopg [4, 5] n (fun dd inv iv wr => ∃ i : Nat, ∃ ia ic, ∃ m : Nat, dd = n - i ∧ i ≤ n ∧ inv = .slice ia m ic ∧ iv = .int .i64 i ∧ Hid (∃ l : List Ri, m = l.length ∧ l.map (·.zs) = inAt ds i ∧ HPX b wr H (runAt ds i) ∧ InAt b wr ia ic l ∧ ChgA b w wr))
  case atStart => exact ⟨0, none, 0, 0, rfl, Nat.zero_le _, rfl, rfl, Lib.hid ⟨[], rfl, rfl, by rw [runAt_zero]; exact HX.out.1, InAt.start _ _, HX.out.2.1⟩⟩
  case round =>
    obtain ⟨i, ia, ic, m0, rfl, hi, rfl, rfl, hI⟩ := hrel
    obtain ⟨wq, rfl⟩ : ∃ wq, wq = wr := ⟨_, rfl⟩
    by_cases hil : i < n
    · obtain ⟨l, hml, hlz, hpx, hin, hca⟩ := hI.out
      have hbq : b ≤ wq.heap.size := by have := hca.size; omega
      have hnl := HD.out.1
      have hiL : i < ds.length := by omega
      have hdi : ds[i]? = some ds[i] := List.getElem?_eq_getElem hiL
      have hinv := inv_runAt ds i (by omega)
      have hinv2 := inv_runAt ds (i + 1) (by omega)
      have hok := inAt_ok ds (by omega) i (by omega)
      have hok2 := inAt_ok ds (by omega) (i + 1) (by omega)
      have hsh := inAt_shift ds (by omega) hiL
      have hdist := dist_runAt ds (i + 1) (by omega)
      have hLst : inAt ds (i + 1) = stepL (runAt ds i) (runAt ds (i + 1)) (inAt ds i) := rfl
      obtain ⟨g, o, eg, y0, y1, y2⟩ := HD.out.2.1 i hiL
      subst eg
      have hw64 := HD.out.2.2.1 ds[i] (List.getElem_mem hiL)
      have hcw : Chg [] w wq := hca.done (by have := HD.out.2.2.2; omega)
      have hdo := fun (W : World) (hW : Chg [] wq W) => doX_any b W H i (runAt ds i) hinv (by omega) (HP.chg0 hpx hW) (by have := hW.size; omega) ds[i] hw64.1 hw64.2
      rw [← runAt_succ ds hdi] at hdo
      obtain ⟨d, hdd⟩ : ∃ d, d = ds[i] := ⟨_, rfl⟩
      rw [← hdd] at y0 y1 y2 hdo
      obtain ⟨what, rule, on⟩ := d
      simp only at y0 y1 y2 hdo
      replace y0 := hcw.cell y0 (by simp)
      replace y1 := hcw.cell y1 (by simp)
      replace y2 := hcw.cell y2 (by simp)
      have hi1 : (i : Int) < n := by omega
      obtain ⟨B3, -, y3, hh3, el3, er3, -⟩ := hpx.sp
      obtain ⟨-, x1, x2, -, -⟩ := cellsH5 hh3.top
      have hm0 : m0 = (runAt ds i).l.length := by
        have h1 := congrArg List.length hlz
        rw [List.length_map, hok.len] at h1
        omega
      obtain ⟨n0, hn0⟩ : ∃ n0, n0 = (runAt ds i).rs.length := ⟨_, rfl⟩
      rw [el3, ← hm0] at x1
      rw [er3, ← hn0] at x2
      obtain ⟨m1, hm1⟩ : ∃ m1, m1 = (runAt ds (i + 1)).l.length := ⟨_, rfl⟩
      obtain ⟨X, hX⟩ : ∃ X, X = runAt ds (i + 1) := ⟨_, rfl⟩
      obtain ⟨XO, hXO⟩ : ∃ X, X = runAt ds i := ⟨_, rfl⟩
      rw [← hX] at hdo hinv2 hok2 hsh hdist hLst hm1
      rw [← hXO] at hinv hok hsh hLst hm0 hn0 hpx
      have HO := Lib.hid (And.intro hdo (And.intro hinv2 (And.intro hok2 (And.intro hdist hm1))))
      have HS := Lib.hid (And.intro hok.len (And.intro hsh (And.intro hLst (And.intro hm0 hn0))))
      have HI2 := Lib.hid (And.intro hml (And.intro hlz (And.intro hin hca)))
      have HEX := Lib.hid hX
      have hm1s : m1 ≤ 1000 := by have := hinv2.sizes; omega
      have hm0s : m0 ≤ 1000 := by have := hinv.sizes; omega
      have k1 := cell_rg x1
      have k2 := cell_rg x2
      have ky0 := y0
      clear hml hlz hpx hin hca hnl hiL hdi hinv hinv2 hok hok2 hsh hdist hLst hw64 hcw hdo hdd hh3 el3 er3 hm0 hn0 hm1 hX hXO hI x1 x2 ky0
      go_wp2_with fail
      refine wp_region_quiet_below (by kernel_rfl) (by kernel_rfl) ?_
      repeat (go_big_quiet_step (fail))
      refine wpQuiet_nil ?_
      intro w3 hw3
      have hc3 := chg_of_rg hw3
      have hdo := HO.out.1 w3 hc3
      replace y0 := hc3.cell y0 (by simp)
      replace y1 := hc3.cell y1 (by simp)
      replace y2 := hc3.cell y2 (by simp)
      have HC3 := Lib.hid hc3
      have hb3 : b ≤ w3.heap.size := by have := hc3.size; omega
      clear hw3 hc3 k1 k2
      go_wp2_with fail
      refine hdo.mono ?_
      clear hdo y0 y1 y2
      rintro e w4 ⟨rfl, hx4, cb4⟩
      have hb4 : b ≤ w4.heap.size := by have := cb4.size; omega
      have hin4 := (HI2.out.2.2.1.chg0 HC3.out).chgB cb4
      have H4 := Lib.hid (And.intro hx4 (And.intro ((HI2.out.2.2.2.tr (ChgB.of0 HC3.out).toA).tr cb4.toA) hin4))
      obtain ⟨B4, hsp4, y4, hh4, el4, er4, -⟩ := hx4.sp
      obtain ⟨x0, x1, x2, -, -⟩ := cellsH5 hh4.top
      rw [el4, ← HO.out.2.2.2.2] at x1
      have hHl := lt_of_block hh4.top
      have HB := Lib.hid (And.intro hsp4 (And.intro hh4 (And.intro el4 er4)))
      have hgrow := HS.out.2.1.grow
      rw [← HO.out.2.2.2.2, ← HS.out.2.2.2.1] at hgrow
      clear hx4 cb4 hin4 hsp4 hh4 el4
      rcases HS.out.2.1.reads with hsr | ⟨rd, hsr, hsl, hp0, hpl⟩
      · have HRS : Hid (X.rs.length = n0) := Lib.hid (by rw [hsr, HS.out.2.2.2.2])
        have hn1 : X.rs.length = n0 := by rw [hsr, HS.out.2.2.2.2]
        rw [er4, hn1] at x2
        have hdr : decide ((n0 : Int) < (n0 : Int)) = false := decide_eq_false (by omega)
        by_cases hmm : m0 < m1
        · have hm1' : m1 = m0 + 1 := by omega
          have hdm : decide ((m0 : Int) < (m1 : Int)) = true := decide_eq_true (by omega)
          have hdm2 : decide (m0 < m1) = true := decide_eq_true (by omega)
          have hLL : inAt ds (i + 1) = inAt ds i ++ [[]] := by
            rw [HS.out.2.2.1]
            exact stepL_grow HS.out.1 (by rw [hn1, HS.out.2.2.2.2]) (by rw [← HO.out.2.2.2.2, ← HS.out.2.2.2.1]; exact hm1')
          obtain ⟨iI, hI0, hI1, hI2, hI3⟩ := info_parts Try.infoIntsRow
          have hcb := (Chg.refl [] w4).alloc (.cells #[.slice none 0 0] 38)
          have hbn := heap_alloc_same w4 (.cells #[.slice none 0 0] 38)
          have hone : ∀ u ∈ ([.slice none 0 0] : List Value), u.oneCell' = true := by simp [Value.oneCell']
          have h2' : m0 + 1 ≤ maxLen ∧ (m0 + 1) * 24 ≤ 140737488355328 := by simp only [maxLen]; omega
          have hrow := row_base (H4.out.2.2.chg0 hcb).row (Nat.zero_le _)
          rw [← HI2.out.1] at hrow
          have HA := Lib.hid (And.intro hcb (And.intro (cells_at hbn) (And.intro hone (And.intro h2' (And.intro hrow (And.intro hLL hm1'))))))
          clear hcb hbn hone h2' hrow hLL er4 hsr hn1 hm1'
          go_wp2_with (at_builtin; refine wpList_append_row rfl _ _ 32 rfl 38 iI _ 1 24 Try.underlying32 hI0 hI1 hI2 hI3 rfl (by decide) (.slice ia m0 ic) m0 (riCells l) rfl HA.out.2.2.2.2.1 ⟨w4.heap.size, 0, none⟩ 1 1 [.slice none 0 0] rfl rfl HA.out.2.1 HA.out.2.2.1 HA.out.2.2.2.1.1 HA.out.2.2.2.1.2 ?_; intro a5 c5 w5 hr5 hg5 hk5; have hp5 := H4.out.2.2.pushNil hb4 HA.out.1 (w5 := w5) (a2 := a5) (c2 := c5) (by rw [← HI2.out.1]; exact hr5) (by rw [← HI2.out.1]; exact hg5) (by rw [← HI2.out.1]; exact hk5); obtain ⟨G2, e2, hcc1, hcc2, -, -, -⟩ := row_cells hr5 (Nat.succ_pos _); subst e2; have hh5 := H4.out.1.keepI hp5.2; obtain ⟨B5, hsp5, y5, hhh5, el5, er5, -⟩ := hh5.sp; obtain ⟨x0, x1, x2, -, -⟩ := cellsH5 hhh5.top; rw [el5, ← HO.out.2.2.2.2] at x1; rw [er5, HRS.out] at x2; have H5 := Lib.hid (And.intro hh5 (And.intro hp5 hr5)); clear hr5 hg5 hk5 hp5 hh5 hsp5 hhh5 el5 er5)
          have hle : m1 ≤ c5 := by have := HA.out.2.2.2.2.2.2; omega
          obtain ⟨w9, rfl⟩ : ∃ z, z = w5 := ⟨_, rfl⟩
          obtain ⟨l9, hl9e⟩ : ∃ z, z = l ++ [(⟨[], none, 0⟩ : Ri)] := ⟨_, rfl⟩
          obtain ⟨ic9, rfl⟩ : ∃ z, z = c5 := ⟨_, rfl⟩
          have H9 : Hid (HPX b w9 H X ∧ InAt b w9 (some ⟨G2, 0, none⟩) ic9 l9 ∧ l9.map (·.zs) = inAt ds (i + 1) ∧ ChgA b w w9) := Lib.hid ⟨H5.out.1, by rw [hl9e]; exact H5.out.2.1.1, by rw [hl9e, HA.out.2.2.2.2.2.1, List.map_append, HI2.out.2.1]; rfl, H4.out.2.1.tr H5.out.2.1.2.toA⟩
          clear hl9e
          go_wp2_with fail
          clear x0 x1 x2
          as_aux_lemma =>
            obtain ⟨B9, hsp9, y9, hh9, el9, er9, -⟩ := H9.out.1.sp
            have hl9 : l9.length = m1 := by
              have h1 := congrArg List.length H9.out.2.2.1
              rw [List.length_map, HO.out.2.2.1.len, ← HO.out.2.2.2.2] at h1
              exact h1
            have HB9 := Lib.hid (And.intro hsp9 (And.intro hh9 (And.intro el9 hl9)))
            clear hsp9 hh9 el9 er9 hl9
            go_wp2_with fail
            go_loopg [10] m1 (fun dd jv wr => ∃ q : Nat, dd = m1 - q ∧ q ≤ m1 ∧ jv = .int .i64 q ∧ Hid (Chg [] w9 wr))
            case atStart => exact ⟨0, rfl, Nat.zero_le _, rfl, Lib.hid (Chg.refl _ _)⟩
            case round =>
              obtain ⟨q, rfl, hq, rfl, hQ⟩ := hrel
              obtain ⟨wz, rfl⟩ : ∃ wz, wz = wr := ⟨_, rfl⟩
              have hhz := HB9.out.2.1.chg0 hQ.out
              obtain ⟨x0, x1, -, -, -⟩ := cellsH5 hhz.top
              rw [HB9.out.2.2.1, ← HO.out.2.2.2.2] at x1
              by_cases hql : q < m1
              · have hqX : q < X.l.length := by have := HO.out.2.2.2.2; omega
                obtain ⟨g9, hg9⟩ : ∃ g, X.l[q]? = some g := ⟨_, List.getElem?_eq_getElem hqX⟩
                obtain ⟨f9, hf9⟩ := HO.out.2.1.get_s hg9
                obtain ⟨r9, hr9, hLq⟩ := map_zs H9.out.2.2.1 (q := q) (by rw [HO.out.2.2.1.len]; exact hqX)
                have hif := HO.out.2.2.1.ok q f9 _ hf9 hLq
                have hqy : q < y9.l.length := by rw [HB9.out.2.2.1]; exact hqX
                obtain ⟨GL, eGL, hv1, hv2, z0, z1, -⟩ := hhz.sdAt hqy
                have hyq : y9.l[q] = g9 := by
                  have h1 : y9.l[q]? = some g9 := by rw [HB9.out.2.2.1]; exact hg9
                  exact (List.getElem?_eq_some_iff.1 h1).2
                rw [hyq] at z0 z1
                rw [eGL] at x1
                rw [HB9.out.2.2.1, ← HO.out.2.2.2.2] at hv1
                have hiv := fun (W : World) (hW : Chg [] wz W) => involvedSP b W B9 X.s ((HB9.out.1.chg0 hQ.out).chg0 hW) (HO.out.2.2.1.few HO.out.2.1 (by omega)) g9.rule g9.place
                rw [inv_at HO.out.2.1 HO.out.2.2.2.1 hf9 hg9] at hiv
                obtain ⟨gr, hgr⟩ : ∃ z, z = g9.rule := ⟨_, rfl⟩
                obtain ⟨gp, hgp⟩ : ∃ z, z = g9.place := ⟨_, rfl⟩
                obtain ⟨lcc, hlcc⟩ : ∃ z, z = y9.lc := ⟨_, rfl⟩
                rw [← hgr] at z0 hiv
                rw [← hgp] at z1 hiv
                rw [← hlcc] at x1 hv1 hv2
                obtain ⟨G, e, hI1, hI2, u0, -, -, -⟩ := H9.out.2.1.get hr9
                obtain rfl : G2 = G := by simpa using e
                rw [HB9.out.2.2.2] at hI1
                obtain ⟨rn, hrn⟩ : ∃ z, z = r9.zs.length := ⟨_, rfl⟩
                rw [← hrn] at u0
                obtain ⟨ra, hra⟩ : ∃ z, z = r9.a := ⟨_, rfl⟩
                obtain ⟨rc, hrc⟩ : ∃ z, z = r9.c := ⟨_, rfl⟩
                rw [← hra, ← hrc] at u0
                have hown := (H9.out.2.1.rows q r9 hr9).own
                rw [← hra, ← hrc, ← hrn] at hown
                obtain ⟨hri, -, hrc1, hrc2⟩ := ownInts_read hown
                have hrc3 : rc ≤ 9223372036854775807 := by simpa only [maxLen] using hrc2
                have HF := Lib.hid (And.intro hiv (And.intro hif (And.intro hri (And.intro hrn u0))))
                have hq1 : (q : Int) < m1 := by omega
                have hrn1 : rn ≤ 1000000 := by have := hif.few; omega
                clear hhz hqX hg9 hf9 hr9 hLq hif hqy eGL hyq hiv hgr hgp hlcc hrn hra hrc hown hri hrc2 u0
                go_wp2_with fail
                go_still_tail 20, (by kernel_rfl)
                change wpList _ _ _ _ _ wz.drew
                have hdw := (Chg.refl [] wz).drew
                obtain ⟨wd, ed⟩ : ∃ z, z = wz.drew := ⟨_, rfl⟩
                rw [← ed] at hdw ⊢
                have hivd := HF.out.1 wd hdw
                have HDW := Lib.hid (hQ.out.tr hdw)
                clear ed hdw x0 x1 z0 z1
                go_wp2_with fail
                refine hivd.mono ?_
                clear hivd
                rintro e w11 ⟨ga, gn, gc, rfl, hgn, hgf, c11⟩
                have hgown := hgf.own
                rw [← hgn] at hgown
                obtain ⟨hgi, -, hgc1, hgc2⟩ := ownInts_read hgown
                have hgc3 : gc ≤ 9223372036854775807 := by simpa only [maxLen] using hgc2
                have H11 := Lib.hid (And.intro (HDW.out.tr c11) (And.intro hgi hgn))
                have hgn1 : gn ≤ 1000000 := by have := HF.out.2.1.size; have := HF.out.2.2.2.1; omega
                clear hgn hgf c11 hgown hgi hgc2
                go_wp2_with fail
                go_loopg [12] gn (fun dd jv wr => ∃ j : Nat, dd = gn - j ∧ j ≤ gn ∧ jv = .int .i64 j ∧ Hid (Chg [] w11 wr))
                case atStart => exact ⟨0, rfl, Nat.zero_le _, rfl, Lib.hid (Chg.refl _ _)⟩
                case round =>
                  obtain ⟨j, rfl, hj, rfl, hJ⟩ := hrel
                  obtain ⟨wy, rfl⟩ : ∃ wy, wy = wr := ⟨_, rfl⟩
                  have u0 := (H11.out.1.tr hJ.out).cell HF.out.2.2.2.2 (by simp)
                  by_cases hjl : j < gn
                  · have hjL : j < f9.inv.length := by have := H11.out.2.2; omega
                    obtain ⟨g5, o5, eg5, v0⟩ := H11.out.2.1 j hjL
                    subst eg5
                    obtain ⟨z, hz⟩ : ∃ z, z = f9.inv[j] := ⟨_, rfl⟩
                    rw [← hz] at v0
                    have v1 := hJ.out.cell v0 (by simp)
                    have hmem : decide (z ∈ r9.zs) = true := decide_eq_true ((HF.out.2.1.mem z).1 (by rw [hz]; exact List.getElem_mem hjL))
                    have cB := calls_rg (w := wy) (fun W hW => has_any W ra rn rc r9.zs HF.out.2.2.2.1 hrc1 hrc3 (fun t ht => by
                      obtain ⟨g, o, e, y⟩ := HF.out.2.2.1 t ht
                      exact ⟨g, o, e, hW.cell ((H11.out.1.tr hJ.out).cell y (by simp)) (by simp)⟩) z)
                    rw [hmem] at cB
                    have ku := cell_rg u0
                    have kv := cell_rg v1
                    have hj1 : (j : Int) < gn := by omega
                    by_cases hj0 : j = 0
                    · have hd1' : decide ((0 : Int) < (j : Int)) = false := decide_eq_false (by omega)
                      have hd2' : decide (0 < j) = false := decide_eq_false (by omega)
                      clear hj0 hz hjL v0 v1 u0 hmem
                      go_wp2_with fail
                      refine wp_region_quiet_below (by kernel_rfl) (by kernel_rfl) ?_
                      repeat (go_big_quiet_step (with_reducible exact cB _ _))
                      refine wpQuiet_nil ?_
                      intro w5 hw5
                      have HQ5 := Lib.hid (hJ.out.tr (chg_of_rg hw5))
                      clear hw5 cB ku kv
                      go_wp2_with fail
                      go_roundg (gn - (j + 1))
                      case measure => omega
                      case rel => exact ⟨j + 1, rfl, by omega, by go_num, HQ5⟩
                    · obtain ⟨t, rfl⟩ : ∃ t, j = t + 1 := ⟨j - 1, by omega⟩
                      have hd1' : decide ((0 : Int) < ((t + 1 : Nat) : Int)) = true := decide_eq_true (by omega)
                      obtain ⟨g6, o6, eg6, v2⟩ := H11.out.2.1 t (by omega)
                      cases eg6
                      obtain ⟨zp, hzp⟩ : ∃ z, z = f9.inv[t]'(by omega) := ⟨_, rfl⟩
                      rw [← hzp] at v2
                      have hlt : zp < z := by
                        rw [hz, hzp]
                        exact List.pairwise_iff_getElem.1 HF.out.2.1.rises t (t + 1) (by omega) hjL (by omega)
                      have hge : decide (z ≤ zp) = false := decide_eq_false (by omega)
                      have hws : IntKind.i64.wrap (((t + 1 : Nat) : Int) - 1) = t := by rw [show ((t + 1 : Nat) : Int) - 1 = t by omega]; exact IntWalk.i64_in _ (by omega)
                      have kv2 := cell_rg (hJ.out.cell v2 (by simp))
                      have ht1 : (t : Int) < gn := by omega
                      clear hj0 hz hzp hjL v0 v1 v2 u0 hmem hlt
                      go_wp2_with fail
                      refine wp_region_quiet_below (by kernel_rfl) (by kernel_rfl) ?_
                      repeat (go_big_quiet_step (with_reducible exact cB _ _))
                      refine wpQuiet_nil ?_
                      intro w5 hw5
                      have HQ5 := Lib.hid (hJ.out.tr (chg_of_rg hw5))
                      clear hw5 cB ku kv kv2
                      go_wp2_with fail
                      go_roundg (gn - (t + 1 + 1))
                      case measure => omega
                      case rel => exact ⟨t + 1 + 1, rfl, by omega, by go_num, HQ5⟩
                  · obtain rfl : j = gn := by omega
                    clear u0
                    go_wp2_with fail
                    go_loopg [13] rn (fun dd jv wr => ∃ t : Nat, dd = rn - t ∧ t ≤ rn ∧ jv = .int .i64 t ∧ Hid (Chg [] w11 wr))
                    case atStart => exact ⟨0, rfl, Nat.zero_le _, rfl, hJ⟩
                    case round =>
                      obtain ⟨t, rfl, ht, rfl, hT⟩ := hrel
                      obtain ⟨wy, rfl⟩ : ∃ wy, wy = wr := ⟨_, rfl⟩
                      have u0 := (H11.out.1.tr hT.out).cell HF.out.2.2.2.2 (by simp)
                      by_cases htl : t < rn
                      · have htL : t < r9.zs.length := by have := HF.out.2.2.2.1; omega
                        obtain ⟨g5, o5, eg5, v0⟩ := HF.out.2.2.1 t htL
                        subst eg5
                        obtain ⟨z, hz⟩ : ∃ z, z = r9.zs[t] := ⟨_, rfl⟩
                        rw [← hz] at v0
                        have v1 := (H11.out.1.tr hT.out).cell v0 (by simp)
                        have hmem : decide (z ∈ f9.inv) = true := decide_eq_true ((HF.out.2.1.mem z).2 (by rw [hz]; exact List.getElem_mem htL))
                        have hcB := has_any wy ga j gc f9.inv H11.out.2.2 hgc1 hgc3 (fun t ht => by
                          obtain ⟨g, o, e, y⟩ := H11.out.2.1 t ht
                          exact ⟨g, o, e, hT.out.cell y (by simp)⟩) z
                        rw [hmem] at hcB
                        have ht1 : (t : Int) < rn := by omega
                        clear hz htL v0 hmem
                        go_wp2_with fail
                        refine hcB.mono ?_
                        clear hcB
                        rintro e w5 ⟨rfl, c5⟩
                        have HQ5 := Lib.hid (hT.out.tr c5)
                        clear c5 u0 v1
                        go_wp2_with fail
                        go_roundg (rn - (t + 1))
                        case measure => omega
                        case rel => exact ⟨t + 1, rfl, by omega, by go_num, HQ5⟩
                      · obtain rfl : t = rn := by omega
                        go_wp2_with fail
                        go_roundg (m1 - (q + 1))
                        case measure => omega
                        case rel => exact ⟨q + 1, rfl, by omega, by go_num, Lib.hid (H11.out.1.tr hT.out)⟩
              · obtain rfl : q = m1 := by omega
                go_wp2_with fail
                go_roundg (n - (i + 1))
                case measure => omega
                case rel => exact ⟨i + 1, (some ⟨G2, 0, none⟩), ic9, q, rfl, by omega, rfl, by go_num, Lib.hid ⟨l9, HB9.out.2.2.2.symm, H9.out.2.2.1, by rw [← HEX.out]; exact HP.chg0 H9.out.1 hQ.out, H9.out.2.1.chg0 hQ.out, H9.out.2.2.2.tr (ChgB.of0 hQ.out).toA⟩⟩
        · have hdm : decide ((m0 : Int) < (m1 : Int)) = false := decide_eq_false (by omega)
          have hdm2 : decide (m0 < m1) = false := decide_eq_false (by omega)
          have hLL : inAt ds (i + 1) = (inAt ds i).take m1 := by
            rw [HS.out.2.2.1, HO.out.2.2.2.2]
            exact stepL_cut HS.out.1 (by rw [hn1, HS.out.2.2.2.2]) (by rw [← HO.out.2.2.2.2, ← HS.out.2.2.2.1]; omega)
          obtain ⟨w9, rfl⟩ : ∃ z, z = w4 := ⟨_, rfl⟩
          obtain ⟨ic9, rfl⟩ : ∃ z, z = ic := ⟨_, rfl⟩
          obtain ⟨l9, hl9e⟩ : ∃ z, z = l.take m1 := ⟨_, rfl⟩
          have hrow := H4.out.2.2.row
          have hml9 := HI2.out.1
          rcases hrow.2 with ⟨h0, -⟩ | ⟨G2, cap, cur, h0, -, -, hcap, -⟩
          · simp only [Value.slice.injEq] at h0
            obtain ⟨rfl, h01, rfl⟩ := h0
            have hm00 : m0 = 0 := by omega
            have hm10 : m1 = 0 := by omega
            have hlnil : l = [] := List.eq_nil_of_length_eq_zero (by omega)
            have H9 : Hid (HPX b w9 H X ∧ InAt b w9 none 0 l9 ∧ l9.map (·.zs) = inAt ds (i + 1) ∧ ChgA b w w9) := Lib.hid ⟨H4.out.1, by rw [hl9e, hlnil]; simpa using InAt.start b w9, by rw [hl9e, hLL, List.map_take, HI2.out.2.1], H4.out.2.1⟩
            have hl9e' := hl9e
            have hlnil' := hlnil
            clear hl9e hrow hml9 h01 hlnil hLL er4 hsr hn1
            obtain ⟨B9, hsp9, y9, hh9, el9, er9, -⟩ := H9.out.1.sp
            have hyl : y9.l.length = 0 := by rw [el9, ← HO.out.2.2.2.2, hm10]
            have HB9 := Lib.hid (And.intro hh9 hyl)
            have hl90 : l9 = [] := by rw [hl9e', hlnil', List.take_nil]
            clear hsp9 hh9 el9 er9 hyl
            subst hl90
            clear hl9e' hlnil'
            subst hm00
            subst hm10
            go_wp2_with fail
            clear x0 x1 x2
            go_loopg [10] 0 (fun dd jv wr => dd = 0 ∧ jv = .int .i64 0 ∧ Hid (Chg [] w9 wr))
            case atStart => exact ⟨rfl, rfl, Lib.hid (Chg.refl _ _)⟩
            case round =>
              obtain ⟨-, rfl, hQ⟩ := hrel
              obtain ⟨wz, rfl⟩ : ∃ wz, wz = wr := ⟨_, rfl⟩
              obtain ⟨x0, x1, -, -, -⟩ := cellsH5 (HB9.out.1.chg0 hQ.out).top
              rw [HB9.out.2] at x1
              go_wp2_with fail
              go_roundg (n - (i + 1))
              case measure => omega
              case rel => exact ⟨i + 1, none, 0, 0, rfl, by omega, rfl, by go_num, Lib.hid ⟨[], rfl, H9.out.2.2.1, by rw [← HEX.out]; exact HP.chg0 H9.out.1 hQ.out, InAt.start _ _, H9.out.2.2.2.tr (ChgB.of0 hQ.out).toA⟩⟩
          · simp only [Value.slice.injEq] at h0
            obtain ⟨rfl, h01, rfl⟩ := h0
            have hle : m1 ≤ ic9 := by omega
            have H9 : Hid (HPX b w9 H X ∧ InAt b w9 (some ⟨G2, 0, none⟩) ic9 l9 ∧ l9.map (·.zs) = inAt ds (i + 1) ∧ ChgA b w w9) := Lib.hid ⟨H4.out.1, by rw [hl9e]; exact H4.out.2.2.take (by omega), by rw [hl9e, hLL, List.map_take, HI2.out.2.1], H4.out.2.1⟩
            clear hl9e hrow hml9 h01 hLL er4 hsr hn1
            go_wp2_with fail
            clear x0 x1 x2
            as_aux_lemma =>
              obtain ⟨B9, hsp9, y9, hh9, el9, er9, -⟩ := H9.out.1.sp
              have hl9 : l9.length = m1 := by
                have h1 := congrArg List.length H9.out.2.2.1
                rw [List.length_map, HO.out.2.2.1.len, ← HO.out.2.2.2.2] at h1
                exact h1
              have HB9 := Lib.hid (And.intro hsp9 (And.intro hh9 (And.intro el9 hl9)))
              clear hsp9 hh9 el9 er9 hl9
              go_wp2_with fail
              go_loopg [10] m1 (fun dd jv wr => ∃ q : Nat, dd = m1 - q ∧ q ≤ m1 ∧ jv = .int .i64 q ∧ Hid (Chg [] w9 wr))
              case atStart => exact ⟨0, rfl, Nat.zero_le _, rfl, Lib.hid (Chg.refl _ _)⟩
              case round =>
                obtain ⟨q, rfl, hq, rfl, hQ⟩ := hrel
                obtain ⟨wz, rfl⟩ : ∃ wz, wz = wr := ⟨_, rfl⟩
                have hhz := HB9.out.2.1.chg0 hQ.out
                obtain ⟨x0, x1, -, -, -⟩ := cellsH5 hhz.top
                rw [HB9.out.2.2.1, ← HO.out.2.2.2.2] at x1
                by_cases hql : q < m1
                · have hqX : q < X.l.length := by have := HO.out.2.2.2.2; omega
                  obtain ⟨g9, hg9⟩ : ∃ g, X.l[q]? = some g := ⟨_, List.getElem?_eq_getElem hqX⟩
                  obtain ⟨f9, hf9⟩ := HO.out.2.1.get_s hg9
                  obtain ⟨r9, hr9, hLq⟩ := map_zs H9.out.2.2.1 (q := q) (by rw [HO.out.2.2.1.len]; exact hqX)
                  have hif := HO.out.2.2.1.ok q f9 _ hf9 hLq
                  have hqy : q < y9.l.length := by rw [HB9.out.2.2.1]; exact hqX
                  obtain ⟨GL, eGL, hv1, hv2, z0, z1, -⟩ := hhz.sdAt hqy
                  have hyq : y9.l[q] = g9 := by
                    have h1 : y9.l[q]? = some g9 := by rw [HB9.out.2.2.1]; exact hg9
                    exact (List.getElem?_eq_some_iff.1 h1).2
                  rw [hyq] at z0 z1
                  rw [eGL] at x1
                  rw [HB9.out.2.2.1, ← HO.out.2.2.2.2] at hv1
                  have hiv := fun (W : World) (hW : Chg [] wz W) => involvedSP b W B9 X.s ((HB9.out.1.chg0 hQ.out).chg0 hW) (HO.out.2.2.1.few HO.out.2.1 (by omega)) g9.rule g9.place
                  rw [inv_at HO.out.2.1 HO.out.2.2.2.1 hf9 hg9] at hiv
                  obtain ⟨gr, hgr⟩ : ∃ z, z = g9.rule := ⟨_, rfl⟩
                  obtain ⟨gp, hgp⟩ : ∃ z, z = g9.place := ⟨_, rfl⟩
                  obtain ⟨lcc, hlcc⟩ : ∃ z, z = y9.lc := ⟨_, rfl⟩
                  rw [← hgr] at z0 hiv
                  rw [← hgp] at z1 hiv
                  rw [← hlcc] at x1 hv1 hv2
                  obtain ⟨G, e, hI1, hI2, u0, -, -, -⟩ := H9.out.2.1.get hr9
                  obtain rfl : G2 = G := by simpa using e
                  rw [HB9.out.2.2.2] at hI1
                  obtain ⟨rn, hrn⟩ : ∃ z, z = r9.zs.length := ⟨_, rfl⟩
                  rw [← hrn] at u0
                  obtain ⟨ra, hra⟩ : ∃ z, z = r9.a := ⟨_, rfl⟩
                  obtain ⟨rc, hrc⟩ : ∃ z, z = r9.c := ⟨_, rfl⟩
                  rw [← hra, ← hrc] at u0
                  have hown := (H9.out.2.1.rows q r9 hr9).own
                  rw [← hra, ← hrc, ← hrn] at hown
                  obtain ⟨hri, -, hrc1, hrc2⟩ := ownInts_read hown
                  have hrc3 : rc ≤ 9223372036854775807 := by simpa only [maxLen] using hrc2
                  have HF := Lib.hid (And.intro hiv (And.intro hif (And.intro hri (And.intro hrn u0))))
                  have hq1 : (q : Int) < m1 := by omega
                  have hrn1 : rn ≤ 1000000 := by have := hif.few; omega
                  clear hhz hqX hg9 hf9 hr9 hLq hif hqy eGL hyq hiv hgr hgp hlcc hrn hra hrc hown hri hrc2 u0
                  go_wp2_with fail
                  go_still_tail 20, (by kernel_rfl)
                  change wpList _ _ _ _ _ wz.drew
                  have hdw := (Chg.refl [] wz).drew
                  obtain ⟨wd, ed⟩ : ∃ z, z = wz.drew := ⟨_, rfl⟩
                  rw [← ed] at hdw ⊢
                  have hivd := HF.out.1 wd hdw
                  have HDW := Lib.hid (hQ.out.tr hdw)
                  clear ed hdw x0 x1 z0 z1
                  go_wp2_with fail
                  refine hivd.mono ?_
                  clear hivd
                  rintro e w11 ⟨ga, gn, gc, rfl, hgn, hgf, c11⟩
                  have hgown := hgf.own
                  rw [← hgn] at hgown
                  obtain ⟨hgi, -, hgc1, hgc2⟩ := ownInts_read hgown
                  have hgc3 : gc ≤ 9223372036854775807 := by simpa only [maxLen] using hgc2
                  have H11 := Lib.hid (And.intro (HDW.out.tr c11) (And.intro hgi hgn))
                  have hgn1 : gn ≤ 1000000 := by have := HF.out.2.1.size; have := HF.out.2.2.2.1; omega
                  clear hgn hgf c11 hgown hgi hgc2
                  go_wp2_with fail
                  go_loopg [12] gn (fun dd jv wr => ∃ j : Nat, dd = gn - j ∧ j ≤ gn ∧ jv = .int .i64 j ∧ Hid (Chg [] w11 wr))
                  case atStart => exact ⟨0, rfl, Nat.zero_le _, rfl, Lib.hid (Chg.refl _ _)⟩
                  case round =>
                    obtain ⟨j, rfl, hj, rfl, hJ⟩ := hrel
                    obtain ⟨wy, rfl⟩ : ∃ wy, wy = wr := ⟨_, rfl⟩
                    have u0 := (H11.out.1.tr hJ.out).cell HF.out.2.2.2.2 (by simp)
                    by_cases hjl : j < gn
                    · have hjL : j < f9.inv.length := by have := H11.out.2.2; omega
                      obtain ⟨g5, o5, eg5, v0⟩ := H11.out.2.1 j hjL
                      subst eg5
                      obtain ⟨z, hz⟩ : ∃ z, z = f9.inv[j] := ⟨_, rfl⟩
                      rw [← hz] at v0
                      have v1 := hJ.out.cell v0 (by simp)
                      have hmem : decide (z ∈ r9.zs) = true := decide_eq_true ((HF.out.2.1.mem z).1 (by rw [hz]; exact List.getElem_mem hjL))
                      have cB := calls_rg (w := wy) (fun W hW => has_any W ra rn rc r9.zs HF.out.2.2.2.1 hrc1 hrc3 (fun t ht => by
                        obtain ⟨g, o, e, y⟩ := HF.out.2.2.1 t ht
                        exact ⟨g, o, e, hW.cell ((H11.out.1.tr hJ.out).cell y (by simp)) (by simp)⟩) z)
                      rw [hmem] at cB
                      have ku := cell_rg u0
                      have kv := cell_rg v1
                      have hj1 : (j : Int) < gn := by omega
                      by_cases hj0 : j = 0
                      · have hd1' : decide ((0 : Int) < (j : Int)) = false := decide_eq_false (by omega)
                        have hd2' : decide (0 < j) = false := decide_eq_false (by omega)
                        clear hj0 hz hjL v0 v1 u0 hmem
                        go_wp2_with fail
                        refine wp_region_quiet_below (by kernel_rfl) (by kernel_rfl) ?_
                        repeat (go_big_quiet_step (with_reducible exact cB _ _))
                        refine wpQuiet_nil ?_
                        intro w5 hw5
                        have HQ5 := Lib.hid (hJ.out.tr (chg_of_rg hw5))
                        clear hw5 cB ku kv
                        go_wp2_with fail
                        go_roundg (gn - (j + 1))
                        case measure => omega
                        case rel => exact ⟨j + 1, rfl, by omega, by go_num, HQ5⟩
                      · obtain ⟨t, rfl⟩ : ∃ t, j = t + 1 := ⟨j - 1, by omega⟩
                        have hd1' : decide ((0 : Int) < ((t + 1 : Nat) : Int)) = true := decide_eq_true (by omega)
                        obtain ⟨g6, o6, eg6, v2⟩ := H11.out.2.1 t (by omega)
                        cases eg6
                        obtain ⟨zp, hzp⟩ : ∃ z, z = f9.inv[t]'(by omega) := ⟨_, rfl⟩
                        rw [← hzp] at v2
                        have hlt : zp < z := by
                          rw [hz, hzp]
                          exact List.pairwise_iff_getElem.1 HF.out.2.1.rises t (t + 1) (by omega) hjL (by omega)
                        have hge : decide (z ≤ zp) = false := decide_eq_false (by omega)
                        have hws : IntKind.i64.wrap (((t + 1 : Nat) : Int) - 1) = t := by rw [show ((t + 1 : Nat) : Int) - 1 = t by omega]; exact IntWalk.i64_in _ (by omega)
                        have kv2 := cell_rg (hJ.out.cell v2 (by simp))
                        have ht1 : (t : Int) < gn := by omega
                        clear hj0 hz hzp hjL v0 v1 v2 u0 hmem hlt
                        go_wp2_with fail
                        refine wp_region_quiet_below (by kernel_rfl) (by kernel_rfl) ?_
                        repeat (go_big_quiet_step (with_reducible exact cB _ _))
                        refine wpQuiet_nil ?_
                        intro w5 hw5
                        have HQ5 := Lib.hid (hJ.out.tr (chg_of_rg hw5))
                        clear hw5 cB ku kv kv2
                        go_wp2_with fail
                        go_roundg (gn - (t + 1 + 1))
                        case measure => omega
                        case rel => exact ⟨t + 1 + 1, rfl, by omega, by go_num, HQ5⟩
                    · obtain rfl : j = gn := by omega
                      clear u0
                      go_wp2_with fail
                      go_loopg [13] rn (fun dd jv wr => ∃ t : Nat, dd = rn - t ∧ t ≤ rn ∧ jv = .int .i64 t ∧ Hid (Chg [] w11 wr))
                      case atStart => exact ⟨0, rfl, Nat.zero_le _, rfl, hJ⟩
                      case round =>
                        obtain ⟨t, rfl, ht, rfl, hT⟩ := hrel
                        obtain ⟨wy, rfl⟩ : ∃ wy, wy = wr := ⟨_, rfl⟩
                        have u0 := (H11.out.1.tr hT.out).cell HF.out.2.2.2.2 (by simp)
                        by_cases htl : t < rn
                        · have htL : t < r9.zs.length := by have := HF.out.2.2.2.1; omega
                          obtain ⟨g5, o5, eg5, v0⟩ := HF.out.2.2.1 t htL
                          subst eg5
                          obtain ⟨z, hz⟩ : ∃ z, z = r9.zs[t] := ⟨_, rfl⟩
                          rw [← hz] at v0
                          have v1 := (H11.out.1.tr hT.out).cell v0 (by simp)
                          have hmem : decide (z ∈ f9.inv) = true := decide_eq_true ((HF.out.2.1.mem z).2 (by rw [hz]; exact List.getElem_mem htL))
                          have hcB := has_any wy ga j gc f9.inv H11.out.2.2 hgc1 hgc3 (fun t ht => by
                            obtain ⟨g, o, e, y⟩ := H11.out.2.1 t ht
                            exact ⟨g, o, e, hT.out.cell y (by simp)⟩) z
                          rw [hmem] at hcB
                          have ht1 : (t : Int) < rn := by omega
                          clear hz htL v0 hmem
                          go_wp2_with fail
                          refine hcB.mono ?_
                          clear hcB
                          rintro e w5 ⟨rfl, c5⟩
                          have HQ5 := Lib.hid (hT.out.tr c5)
                          clear c5 u0 v1
                          go_wp2_with fail
                          go_roundg (rn - (t + 1))
                          case measure => omega
                          case rel => exact ⟨t + 1, rfl, by omega, by go_num, HQ5⟩
                        · obtain rfl : t = rn := by omega
                          go_wp2_with fail
                          go_roundg (m1 - (q + 1))
                          case measure => omega
                          case rel => exact ⟨q + 1, rfl, by omega, by go_num, Lib.hid (H11.out.1.tr hT.out)⟩
                · obtain rfl : q = m1 := by omega
                  go_wp2_with fail
                  go_roundg (n - (i + 1))
                  case measure => omega
                  case rel => exact ⟨i + 1, (some ⟨G2, 0, none⟩), ic9, q, rfl, by omega, rfl, by go_num, Lib.hid ⟨l9, HB9.out.2.2.2.symm, H9.out.2.2.1, by rw [← HEX.out]; exact HP.chg0 H9.out.1 hQ.out, H9.out.2.1.chg0 hQ.out, H9.out.2.2.2.tr (ChgB.of0 hQ.out).toA⟩⟩
      · have HRD := trivial
        have hrs1 : X.rs.length = n0 + 1 := by rw [hsr, List.length_append, ← HS.out.2.2.2.2]; rfl
        rw [er4, hrs1] at x2
        obtain ⟨W, hW⟩ : ∃ W : Nat, rd.pos = W := ⟨rd.pos.toNat, by omega⟩
        have hWl : W < X.l.length := by rw [hW, Int.toNat_natCast] at hpl; exact hpl
        have hm10 : m1 = m0 := by rw [HO.out.2.2.2.2, HS.out.2.2.2.1, hsl]
        have hLL : inAt ds (i + 1) = (inAt ds i).set W ((inAt ds i).getD W [] ++ (X.l.drop (W + 1)).map (·.rule)) := by
          rw [HS.out.2.2.1]
          exact stepL_read HS.out.1 hsr hsl hW
        have hWm : W < m1 := by have := HO.out.2.2.2.2; omega
        have hWL : W < (inAt ds i).length := by rw [HS.out.1, ← hsl]; exact hWl
        obtain ⟨gW, hgW⟩ : ∃ g, X.l[W]? = some g := ⟨_, List.getElem?_eq_getElem hWl⟩
        obtain ⟨fW, hfW⟩ := HO.out.2.1.get_s hgW
        have hLW : (inAt ds (i + 1))[W]? = some ((inAt ds i).getD W [] ++ (X.l.drop (W + 1)).map (·.rule)) := by rw [hLL, List.getElem?_set_self hWL]
        have hbase : ((inAt ds i).getD W []).length ≤ 200000 := by
          have := (HO.out.2.2.1.ok W fW _ hfW hLW).few
          rw [List.length_append] at this
          omega
        obtain ⟨GR, eGR, hrc1, hrc2, -, z1⟩ := (HB.out.2.1).rdAt (i := n0) (by rw [HB.out.2.2.2, hrs1]; exact Nat.lt_succ_self n0)
        have hrdv : ∀ h, (y4.rs[n0]'h) = rd := fun h => by
          have e1 : y4.rs[n0]? = some rd := by rw [HB.out.2.2.2, hsr, List.getElem?_append_right (by rw [← HS.out.2.2.2.2]; exact Nat.le_refl _), ← HS.out.2.2.2.2, Nat.sub_self]; rfl
          exact (List.getElem?_eq_some_iff.1 e1).2
        rw [hrdv, hW] at z1
        rw [eGR] at x2
        rw [HB.out.2.2.2, hrs1] at hrc1
        obtain ⟨rcc, hrcc⟩ : ∃ z, z = y4.rc := ⟨_, rfl⟩
        rw [← hrcc] at x2 hrc1 hrc2
        have hdm : decide ((m0 : Int) < (m1 : Int)) = false := decide_eq_false (by omega)
        have hdm2 : decide (m0 < m1) = false := decide_eq_false (by omega)
        have hdr : decide ((n0 : Int) < ((n0 + 1 : Nat) : Int)) = true := decide_eq_true (by omega)
        have hdr2 : decide ((n0 : Int) < (n0 : Int) + 1) = true := decide_eq_true (by omega)
        have hn0s : n0 ≤ 1000 := by have := HO.out.2.1.sizes; omega
        have hWs : (W : Int) ≤ 1000 := by omega
        have hwr : IntKind.i64.wrap ((W : Int) + 1) = (W : Int) + 1 := IntWalk.i64_in _ (by omega)
        obtain ⟨G2, e2, hcc1, hcc2, -, -, -⟩ := row_cells H4.out.2.2.row (by have := HI2.out.1; omega)
        subst e2
        obtain ⟨ic9, rfl⟩ : ∃ z, z = ic := ⟨_, rfl⟩
        have hle : m1 ≤ ic9 := by have := HI2.out.1; omega
        have HW := Lib.hid (And.intro hLL (And.intro hbase (And.intro hm10 hWL)))
        have hn01 : n0 < n0 + 1 := Nat.lt_succ_self n0
        clear hrs1 hW hWl hLL hgW hfW hLW hbase eGR hrdv hrcc er4 hsr hsl hp0 hpl hm10 hWL hcc1 hcc2
        go_wp2_with fail
        clear x0 x1 x2 z1
        go_loopg [9] (m1 - (W + 1)) (fun dd jv wr => ∃ q : Nat, dd = m1 - q ∧ W < q ∧ q ≤ m1 ∧ jv = .int .i64 q ∧ Hid (∃ l' : List Ri, l'.length = m1 ∧ l'.map (·.zs) = (inAt ds i).set W ((inAt ds i).getD W [] ++ rulesTo X W q) ∧ InAt b wr (some ⟨G2, 0, none⟩) ic9 l' ∧ HPX b wr H X ∧ ChgA b w wr))
        case atStart => exact ⟨W + 1, rfl, by omega, by omega, by go_num, Lib.hid ⟨l, by rw [← HI2.out.1, HW.out.2.2.1], by rw [rulesTo_zero, List.append_nil, setD_same]; exact HI2.out.2.1, H4.out.2.2, H4.out.1, H4.out.2.1⟩⟩
        case round =>
          obtain ⟨q, rfl, hWq, hq, rfl, hQ⟩ := hrel
          obtain ⟨wz, rfl⟩ : ∃ wz, wz = wr := ⟨_, rfl⟩
          obtain ⟨l9, hl9, hl9z, hin9, hx9, hca9⟩ := hQ.out
          have hbz : b ≤ wz.heap.size := by have := hca9.size; omega
          by_cases hql : q < m1
          · have hqX : q < X.l.length := by have := HO.out.2.2.2.2; omega
            obtain ⟨B9, hsp9, y9, hh9, el9, er9, -⟩ := hx9.sp
            obtain ⟨x0, x1, -, -, -⟩ := cellsH5 hh9.top
            rw [el9, ← HO.out.2.2.2.2] at x1
            obtain ⟨g9, hg9⟩ : ∃ g, X.l[q]? = some g := ⟨_, List.getElem?_eq_getElem hqX⟩
            have hqy : q < y9.l.length := by rw [el9]; exact hqX
            obtain ⟨GL, eGL, hv1, hv2, z0, -, -⟩ := hh9.sdAt hqy
            have hyq : y9.l[q] = g9 := by
              have h1 : y9.l[q]? = some g9 := by rw [el9]; exact hg9
              exact (List.getElem?_eq_some_iff.1 h1).2
            rw [hyq] at z0
            rw [eGL] at x1
            rw [el9, ← HO.out.2.2.2.2] at hv1
            obtain ⟨r9, hr9, hLq⟩ := map_zs hl9z (q := W) (by rw [List.length_set]; exact HW.out.2.2.2)
            rw [List.getElem?_set_self HW.out.2.2.2] at hLq
            have hr9z : r9.zs = (inAt ds i).getD W [] ++ rulesTo X W q := (Option.some.inj hLq).symm
            obtain ⟨G, e, hI1, hI2, u0, hfz, hGl, cur, hcur⟩ := hin9.get hr9
            obtain rfl : G2 = G := by simpa using e
            rw [hl9] at hI1
            obtain ⟨gr, hgr⟩ : ∃ z, z = g9.rule := ⟨_, rfl⟩
            obtain ⟨lcc, hlcc⟩ : ∃ z, z = y9.lc := ⟨_, rfl⟩
            rw [← hgr] at z0
            rw [← hlcc] at x1 hv1 hv2
            obtain ⟨rn, hrn⟩ : ∃ z, z = r9.zs.length := ⟨_, rfl⟩
            rw [← hrn] at u0
            have hrn1 : rn ≤ 300000 := by
              have h1 : (rulesTo X W q).length ≤ X.l.length := by unfold rulesTo; rw [List.length_map, List.length_take, List.length_drop]; omega
              have h2 := HO.out.2.2.2.2
              have h3 := HW.out.2.1
              rw [hrn, hr9z, List.length_append]
              omega
            obtain ⟨iE, hE0, hE1, hE2, hE3⟩ := info_parts Try.infoIntEl
            have hcb := ((Chg.refl [] wz).alloc (.cells #[.int .i64 gr] 3)).drew
            have hbn := heap_alloc_same wz (.cells #[.int .i64 gr] 3)
            have hone : ∀ u ∈ ([.int .i64 gr] : List Value), u.oneCell' = true := by simp [Value.oneCell']
            have h2' : rn + 1 ≤ maxLen ∧ (rn + 1) * 8 ≤ 140737488355328 := by simp only [maxLen]; omega
            have hrow := row_base (hcb.row (hin9.rows W r9 hr9) (fun _ _ => by simp)) (Nat.zero_le _)
            rw [← hrn] at hrow
            have hneG : (Value.slice r9.a rn r9.c).ownBlock ≠ some G2 := ownsRow_ne hrow (hcb.heap hcur (by simp)) (by decide)
            have HA := Lib.hid (And.intro hcb (And.intro (cells_at_drew hbn) (And.intro hone (And.intro h2' (And.intro hrow (And.intro hneG (And.intro hcur hrn)))))))
            have HQ9 := Lib.hid (And.intro hin9 (And.intro hr9 (And.intro hx9 (And.intro hca9 (And.intro hr9z (And.intro hg9 (And.intro hgr (And.intro hl9 hl9z))))))))
            obtain ⟨ra, hra⟩ : ∃ z, z = r9.a := ⟨_, rfl⟩
            obtain ⟨rc, hrc⟩ : ∃ z, z = r9.c := ⟨_, rfl⟩
            have HU := Lib.hid (And.intro u0 (And.intro hra hrc))
            rw [← hra, ← hrc] at u0
            have hHl9 := lt_of_block hh9.top
            have hzl := World.block_lt_of_cell? _ _ z0
            simp only at hzl
            have hq1 : (q : Int) < m1 := by omega
            have hW1 : (W : Int) < m1 := by omega
            clear hin9 hr9 hx9 hca9 hl9 hl9z hsp9 hh9 el9 er9 hqX hg9 hqy eGL hyq hLq hr9z e hgr hlcc hrn hcb hbn hone h2' hrow hneG hcur hra hrc
            go_wp2_with fail
            go_region_law ((refine step_append_row rfl _ _ 38 rfl 3 iE _ 1 8 Try.underlying38 hE0 hE1 hE2 hE3 rfl (by decide) (.slice ra rn rc) rn (r9.zs.map (Value.int .i64)) rfl (by rw [HU.out.2.1, HU.out.2.2]; exact HA.out.2.2.2.2.1) ⟨wz.heap.size, 0, none⟩ 1 1 [.int .i64 gr] rfl rfl HA.out.2.1 HA.out.2.2.1 HA.out.2.2.2.1.1 HA.out.2.2.2.1.2 ?_; intro a5 c5 w5 hr5 hg5 hk5; have hB5 := grown_heap hg5 (HA.out.1.heap HA.out.2.2.2.2.2.2.1 (by simp)) (by rw [HU.out.2.1, HU.out.2.2]; exact HA.out.2.2.2.2.2.1); have q5 : w5.cell? ⟨G2, W, none⟩ = some (.slice r9.a rn r9.c) := (by rw [cell_of_cells hB5, ← cell_of_cells HA.out.2.2.2.2.2.2.1]; exact HU.out.1); have f5 := free_of_cells hB5 W; have HX5 := Lib.hid (And.intro hr5 (And.intro hg5 hk5)); clear hr5 hg5 hk5 hB5))
            all_goals
              have hput := HQ9.out.1.put hbz HA.out.1 HQ9.out.2.1 gr (w5 := w5) (a2 := a5) (c2 := c5) (by rw [← HA.out.2.2.2.2.2.2.2]; exact HX5.out.1) (by rw [← HA.out.2.2.2.2.2.2.2, ← HU.out.2.1, ← HU.out.2.2]; exact HX5.out.2.1) (by rw [← HA.out.2.2.2.2.2.2.2, ← HU.out.2.1, ← HU.out.2.2]; exact HX5.out.2.2)
              rw [← HA.out.2.2.2.2.2.2.2] at hput
              obtain ⟨w6, e6⟩ : ∃ w6, w6 = w5.setCell ⟨G2, W, none⟩ (.slice a5 (rn + 1) c5) := ⟨_, rfl⟩
              rw [← e6] at hput ⊢
              have HP6 := Lib.hid hput
              clear hput e6 q5 f5
              go_wp2_with fail
              go_roundg (m1 - (q + 1))
              case measure => omega
              case rel =>
                refine ⟨q + 1, rfl, by omega, by omega, by go_num, Lib.hid ⟨_, ?_, ?_, HP6.out.1, HQ9.out.2.2.1.keepI HP6.out.2, HQ9.out.2.2.2.1.tr HP6.out.2.toA⟩⟩
                · rw [List.length_set]; exact HQ9.out.2.2.2.2.2.2.2.1
                · rw [List.map_set, HQ9.out.2.2.2.2.2.2.2.2, List.set_set, HQ9.out.2.2.2.2.1, List.append_assoc, rulesTo_succ hWq HQ9.out.2.2.2.2.2.1, HQ9.out.2.2.2.2.2.2.1]
          · obtain rfl : m1 = q := by omega
            obtain ⟨B8, hsp8, y8, hh8, el8, er8, -⟩ := hx9.sp
            obtain ⟨x0, x1, -, -, -⟩ := cellsH5 hh8.top
            rw [el8, ← HO.out.2.2.2.2] at x1
            obtain ⟨w9, rfl⟩ : ∃ z, z = wz := ⟨_, rfl⟩
            have H9 : Hid (HPX b w9 H X ∧ InAt b w9 (some ⟨G2, 0, none⟩) ic9 l9 ∧ l9.map (·.zs) = inAt ds (i + 1) ∧ ChgA b w w9) := Lib.hid ⟨hx9, hin9, by rw [hl9z, HW.out.1, rulesTo_all m1 HO.out.2.2.2.2], hca9⟩
            clear hl9 hl9z hin9 hx9 hca9 hsp8 hh8 el8 er8 hQ
            go_wp2_with fail
            clear x0 x1
            as_aux_lemma =>
              obtain ⟨B9, hsp9, y9, hh9, el9, er9, -⟩ := H9.out.1.sp
              have hl9 : l9.length = m1 := by
                have h1 := congrArg List.length H9.out.2.2.1
                rw [List.length_map, HO.out.2.2.1.len, ← HO.out.2.2.2.2] at h1
                exact h1
              have HB9 := Lib.hid (And.intro hsp9 (And.intro hh9 (And.intro el9 hl9)))
              clear hsp9 hh9 el9 er9 hl9
              go_wp2_with fail
              go_loopg [10] m1 (fun dd jv wr => ∃ q : Nat, dd = m1 - q ∧ q ≤ m1 ∧ jv = .int .i64 q ∧ Hid (Chg [] w9 wr))
              case atStart => exact ⟨0, rfl, Nat.zero_le _, rfl, Lib.hid (Chg.refl _ _)⟩
              case round =>
                obtain ⟨q, rfl, hq, rfl, hQ⟩ := hrel
                obtain ⟨wz, rfl⟩ : ∃ wz, wz = wr := ⟨_, rfl⟩
                have hhz := HB9.out.2.1.chg0 hQ.out
                obtain ⟨x0, x1, -, -, -⟩ := cellsH5 hhz.top
                rw [HB9.out.2.2.1, ← HO.out.2.2.2.2] at x1
                by_cases hql : q < m1
                · have hqX : q < X.l.length := by have := HO.out.2.2.2.2; omega
                  obtain ⟨g9, hg9⟩ : ∃ g, X.l[q]? = some g := ⟨_, List.getElem?_eq_getElem hqX⟩
                  obtain ⟨f9, hf9⟩ := HO.out.2.1.get_s hg9
                  obtain ⟨r9, hr9, hLq⟩ := map_zs H9.out.2.2.1 (q := q) (by rw [HO.out.2.2.1.len]; exact hqX)
                  have hif := HO.out.2.2.1.ok q f9 _ hf9 hLq
                  have hqy : q < y9.l.length := by rw [HB9.out.2.2.1]; exact hqX
                  obtain ⟨GL, eGL, hv1, hv2, z0, z1, -⟩ := hhz.sdAt hqy
                  have hyq : y9.l[q] = g9 := by
                    have h1 : y9.l[q]? = some g9 := by rw [HB9.out.2.2.1]; exact hg9
                    exact (List.getElem?_eq_some_iff.1 h1).2
                  rw [hyq] at z0 z1
                  rw [eGL] at x1
                  rw [HB9.out.2.2.1, ← HO.out.2.2.2.2] at hv1
                  have hiv := fun (W : World) (hW : Chg [] wz W) => involvedSP b W B9 X.s ((HB9.out.1.chg0 hQ.out).chg0 hW) (HO.out.2.2.1.few HO.out.2.1 (by omega)) g9.rule g9.place
                  rw [inv_at HO.out.2.1 HO.out.2.2.2.1 hf9 hg9] at hiv
                  obtain ⟨gr, hgr⟩ : ∃ z, z = g9.rule := ⟨_, rfl⟩
                  obtain ⟨gp, hgp⟩ : ∃ z, z = g9.place := ⟨_, rfl⟩
                  obtain ⟨lcc, hlcc⟩ : ∃ z, z = y9.lc := ⟨_, rfl⟩
                  rw [← hgr] at z0 hiv
                  rw [← hgp] at z1 hiv
                  rw [← hlcc] at x1 hv1 hv2
                  obtain ⟨G, e, hI1, hI2, u0, -, -, -⟩ := H9.out.2.1.get hr9
                  obtain rfl : G2 = G := by simpa using e
                  rw [HB9.out.2.2.2] at hI1
                  obtain ⟨rn, hrn⟩ : ∃ z, z = r9.zs.length := ⟨_, rfl⟩
                  rw [← hrn] at u0
                  obtain ⟨ra, hra⟩ : ∃ z, z = r9.a := ⟨_, rfl⟩
                  obtain ⟨rc, hrc⟩ : ∃ z, z = r9.c := ⟨_, rfl⟩
                  rw [← hra, ← hrc] at u0
                  have hown := (H9.out.2.1.rows q r9 hr9).own
                  rw [← hra, ← hrc, ← hrn] at hown
                  obtain ⟨hri, -, hrc1, hrc2⟩ := ownInts_read hown
                  have hrc3 : rc ≤ 9223372036854775807 := by simpa only [maxLen] using hrc2
                  have HF := Lib.hid (And.intro hiv (And.intro hif (And.intro hri (And.intro hrn u0))))
                  have hq1 : (q : Int) < m1 := by omega
                  have hrn1 : rn ≤ 1000000 := by have := hif.few; omega
                  clear hhz hqX hg9 hf9 hr9 hLq hif hqy eGL hyq hiv hgr hgp hlcc hrn hra hrc hown hri hrc2 u0
                  go_wp2_with fail
                  go_still_tail 20, (by kernel_rfl)
                  change wpList _ _ _ _ _ wz.drew
                  have hdw := (Chg.refl [] wz).drew
                  obtain ⟨wd, ed⟩ : ∃ z, z = wz.drew := ⟨_, rfl⟩
                  rw [← ed] at hdw ⊢
                  have hivd := HF.out.1 wd hdw
                  have HDW := Lib.hid (hQ.out.tr hdw)
                  clear ed hdw x0 x1 z0 z1
                  go_wp2_with fail
                  refine hivd.mono ?_
                  clear hivd
                  rintro e w11 ⟨ga, gn, gc, rfl, hgn, hgf, c11⟩
                  have hgown := hgf.own
                  rw [← hgn] at hgown
                  obtain ⟨hgi, -, hgc1, hgc2⟩ := ownInts_read hgown
                  have hgc3 : gc ≤ 9223372036854775807 := by simpa only [maxLen] using hgc2
                  have H11 := Lib.hid (And.intro (HDW.out.tr c11) (And.intro hgi hgn))
                  have hgn1 : gn ≤ 1000000 := by have := HF.out.2.1.size; have := HF.out.2.2.2.1; omega
                  clear hgn hgf c11 hgown hgi hgc2
                  go_wp2_with fail
                  go_loopg [12] gn (fun dd jv wr => ∃ j : Nat, dd = gn - j ∧ j ≤ gn ∧ jv = .int .i64 j ∧ Hid (Chg [] w11 wr))
                  case atStart => exact ⟨0, rfl, Nat.zero_le _, rfl, Lib.hid (Chg.refl _ _)⟩
                  case round =>
                    obtain ⟨j, rfl, hj, rfl, hJ⟩ := hrel
                    obtain ⟨wy, rfl⟩ : ∃ wy, wy = wr := ⟨_, rfl⟩
                    have u0 := (H11.out.1.tr hJ.out).cell HF.out.2.2.2.2 (by simp)
                    by_cases hjl : j < gn
                    · have hjL : j < f9.inv.length := by have := H11.out.2.2; omega
                      obtain ⟨g5, o5, eg5, v0⟩ := H11.out.2.1 j hjL
                      subst eg5
                      obtain ⟨z, hz⟩ : ∃ z, z = f9.inv[j] := ⟨_, rfl⟩
                      rw [← hz] at v0
                      have v1 := hJ.out.cell v0 (by simp)
                      have hmem : decide (z ∈ r9.zs) = true := decide_eq_true ((HF.out.2.1.mem z).1 (by rw [hz]; exact List.getElem_mem hjL))
                      have cB := calls_rg (w := wy) (fun W hW => has_any W ra rn rc r9.zs HF.out.2.2.2.1 hrc1 hrc3 (fun t ht => by
                        obtain ⟨g, o, e, y⟩ := HF.out.2.2.1 t ht
                        exact ⟨g, o, e, hW.cell ((H11.out.1.tr hJ.out).cell y (by simp)) (by simp)⟩) z)
                      rw [hmem] at cB
                      have ku := cell_rg u0
                      have kv := cell_rg v1
                      have hj1 : (j : Int) < gn := by omega
                      by_cases hj0 : j = 0
                      · have hd1' : decide ((0 : Int) < (j : Int)) = false := decide_eq_false (by omega)
                        have hd2' : decide (0 < j) = false := decide_eq_false (by omega)
                        clear hj0 hz hjL v0 v1 u0 hmem
                        go_wp2_with fail
                        refine wp_region_quiet_below (by kernel_rfl) (by kernel_rfl) ?_
                        repeat (go_big_quiet_step (with_reducible exact cB _ _))
                        refine wpQuiet_nil ?_
                        intro w5 hw5
                        have HQ5 := Lib.hid (hJ.out.tr (chg_of_rg hw5))
                        clear hw5 cB ku kv
                        go_wp2_with fail
                        go_roundg (gn - (j + 1))
                        case measure => omega
                        case rel => exact ⟨j + 1, rfl, by omega, by go_num, HQ5⟩
                      · obtain ⟨t, rfl⟩ : ∃ t, j = t + 1 := ⟨j - 1, by omega⟩
                        have hd1' : decide ((0 : Int) < ((t + 1 : Nat) : Int)) = true := decide_eq_true (by omega)
                        obtain ⟨g6, o6, eg6, v2⟩ := H11.out.2.1 t (by omega)
                        cases eg6
                        obtain ⟨zp, hzp⟩ : ∃ z, z = f9.inv[t]'(by omega) := ⟨_, rfl⟩
                        rw [← hzp] at v2
                        have hlt : zp < z := by
                          rw [hz, hzp]
                          exact List.pairwise_iff_getElem.1 HF.out.2.1.rises t (t + 1) (by omega) hjL (by omega)
                        have hge : decide (z ≤ zp) = false := decide_eq_false (by omega)
                        have hws : IntKind.i64.wrap (((t + 1 : Nat) : Int) - 1) = t := by rw [show ((t + 1 : Nat) : Int) - 1 = t by omega]; exact IntWalk.i64_in _ (by omega)
                        have kv2 := cell_rg (hJ.out.cell v2 (by simp))
                        have ht1 : (t : Int) < gn := by omega
                        clear hj0 hz hzp hjL v0 v1 v2 u0 hmem hlt
                        go_wp2_with fail
                        refine wp_region_quiet_below (by kernel_rfl) (by kernel_rfl) ?_
                        repeat (go_big_quiet_step (with_reducible exact cB _ _))
                        refine wpQuiet_nil ?_
                        intro w5 hw5
                        have HQ5 := Lib.hid (hJ.out.tr (chg_of_rg hw5))
                        clear hw5 cB ku kv kv2
                        go_wp2_with fail
                        go_roundg (gn - (t + 1 + 1))
                        case measure => omega
                        case rel => exact ⟨t + 1 + 1, rfl, by omega, by go_num, HQ5⟩
                    · obtain rfl : j = gn := by omega
                      clear u0
                      go_wp2_with fail
                      go_loopg [13] rn (fun dd jv wr => ∃ t : Nat, dd = rn - t ∧ t ≤ rn ∧ jv = .int .i64 t ∧ Hid (Chg [] w11 wr))
                      case atStart => exact ⟨0, rfl, Nat.zero_le _, rfl, hJ⟩
                      case round =>
                        obtain ⟨t, rfl, ht, rfl, hT⟩ := hrel
                        obtain ⟨wy, rfl⟩ : ∃ wy, wy = wr := ⟨_, rfl⟩
                        have u0 := (H11.out.1.tr hT.out).cell HF.out.2.2.2.2 (by simp)
                        by_cases htl : t < rn
                        · have htL : t < r9.zs.length := by have := HF.out.2.2.2.1; omega
                          obtain ⟨g5, o5, eg5, v0⟩ := HF.out.2.2.1 t htL
                          subst eg5
                          obtain ⟨z, hz⟩ : ∃ z, z = r9.zs[t] := ⟨_, rfl⟩
                          rw [← hz] at v0
                          have v1 := (H11.out.1.tr hT.out).cell v0 (by simp)
                          have hmem : decide (z ∈ f9.inv) = true := decide_eq_true ((HF.out.2.1.mem z).2 (by rw [hz]; exact List.getElem_mem htL))
                          have hcB := has_any wy ga j gc f9.inv H11.out.2.2 hgc1 hgc3 (fun t ht => by
                            obtain ⟨g, o, e, y⟩ := H11.out.2.1 t ht
                            exact ⟨g, o, e, hT.out.cell y (by simp)⟩) z
                          rw [hmem] at hcB
                          have ht1 : (t : Int) < rn := by omega
                          clear hz htL v0 hmem
                          go_wp2_with fail
                          refine hcB.mono ?_
                          clear hcB
                          rintro e w5 ⟨rfl, c5⟩
                          have HQ5 := Lib.hid (hT.out.tr c5)
                          clear c5 u0 v1
                          go_wp2_with fail
                          go_roundg (rn - (t + 1))
                          case measure => omega
                          case rel => exact ⟨t + 1, rfl, by omega, by go_num, HQ5⟩
                        · obtain rfl : t = rn := by omega
                          go_wp2_with fail
                          go_roundg (m1 - (q + 1))
                          case measure => omega
                          case rel => exact ⟨q + 1, rfl, by omega, by go_num, Lib.hid (H11.out.1.tr hT.out)⟩
                · obtain rfl : q = m1 := by omega
                  go_wp2_with fail
                  go_roundg (n - (i + 1))
                  case measure => omega
                  case rel => exact ⟨i + 1, (some ⟨G2, 0, none⟩), ic9, q, rfl, by omega, rfl, by go_num, Lib.hid ⟨l9, HB9.out.2.2.2.symm, H9.out.2.2.1, by rw [← HEX.out]; exact HP.chg0 H9.out.1 hQ.out, H9.out.2.1.chg0 hQ.out, H9.out.2.2.2.tr (ChgB.of0 hQ.out).toA⟩⟩
    · obtain rfl : i = n := by omega
      obtain ⟨l, -, -, -, -, hca⟩ := hI.out
      have HF := Lib.hid (hca.done (by have := HD.out.2.2.2; omega))
      clear hca
      go_wp2_with fail
      go_ret
      exact ⟨rfl, HF.out⟩
end Go.Proofs.Ytnajhcoimohcaaa

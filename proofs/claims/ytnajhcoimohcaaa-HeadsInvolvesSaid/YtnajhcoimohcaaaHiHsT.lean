/-
  HeadsTaints: the walk.
  Conditions: none.
-/
import Derived.Test.YtnajhcoimohcaaaHiHs10
import Derived.Test.YtnajhcoimohcaaaHiHsOpen
import Derived.Test.YtnajhcoimohcaaaHiGHead
set_option linter.unusedVariables false
set_option linter.unusedSimpArgs false
set_option linter.unnecessarySimpa false
namespace Go.Proofs.Ytnajhcoimohcaaa
open Go.RowKit Go.MapKept

/-- A history of nothing, just made. -/
theorem hist_new {w1 : World} {b B H : Nat} (hs : SP b w1 B []) (hH : H = w1.heap.size) (hb : b ≤ w1.heap.size) :
    HPX b (w1.alloc (.cells #[.pointer (some ⟨B, 0, none⟩), .slice none 0 0, .slice none 0 0, .slice none 0 0, .int .i64 0] 31)) H ⟨[], [], [], []⟩ := by
  subst hH
  obtain ⟨a, c, l, h1, h2, h3⟩ := hs
  have hca := (Chg.refl [] w1).alloc (.cells #[.pointer (some ⟨B, 0, none⟩), .slice none 0 0, .slice none 0 0, .slice none 0 0, .int .i64 0] 31)
  exact ⟨B, a, c, l, ⟨[], [], [], none, 0, none, 0, none, 0⟩, h1.chg0 hca, ⟨heap_alloc_same _ _, World.ownsRow_nil _ _ _ _, World.ownsRow_nil _ _ _ _, World.ownsRow_nil _ _ _ _, hb⟩, h3, h2, rfl, rfl, rfl⟩
theorem HPX.sp {b : Nat} {w : World} {H : Nat} {x : Stt} (h : HPX b w H x) : ∃ B, SP b w B x.s ∧ ∃ y : Hst, HistAt b w H B y ∧ y.l = x.l ∧ y.rs = x.rs ∧ y.ts = x.ts := by
  obtain ⟨B, a, c, fr, y, h1, h2, h3, h4, h5, h6, h7⟩ := h
  exact ⟨B, ⟨a, c, fr, h1, h4, h3⟩, y, h2, h5, h6, h7⟩
theorem HIv.tainted {k : Nat} {x : Stt} (h : HIv k x) {n : Nat} {g : Sd} (hn : n + 1 = x.l.length) (hg : x.l[n]? = some g) : tntB x.s = hangB x.rs g.since n := by
  obtain ⟨f, hf⟩ := h.get_s hg
  have := (h.agree n f g hf hg).tnt
  unfold tntB
  rw [List.getLast?_eq_getElem?, h.len, show x.l.length - 1 = n by omega, hf]
  exact this
theorem HIv.tainted0 {k : Nat} {x : Stt} (h : HIv k x) (h0 : x.l = []) : tntB x.s = false := by
  have : x.s = [] := List.eq_nil_of_length_eq_zero (by rw [h.len, h0]; rfl)
  rw [this]; rfl

theorem hangV {X : Stt} {k : Nat} {g : Sd} {tv : Bool} {y : Hst} (h : X.l[k]? = some g ∧ tv = hangB X.rs g.since k) (hl : y.l = X.l) (hr : y.rs = X.rs) (hk : k < y.l.length) : hangB y.rs y.l[k].since k = tv := by
  have e : y.l[k]? = some g := by rw [hl]; exact h.1
  obtain ⟨_, e2⟩ := List.getElem?_eq_some_iff.1 e
  rw [e2, hr, h.2]

set_option maxRecDepth 100000 in
set_option maxHeartbeats 8000000 in
theorem headsTaints_any (w : World) (a : Option Addr) (n c : Nat) (ds : List Stp) (hn : n = ds.length) (hc : n ≤ c) (hcm : c ≤ 9223372036854775807) (hd : Steps w a ds) (hwf : ∀ y ∈ ds, I64 y.what ∧ I64 y.rule) :
    Calls Try.prog 4 #[.slice a n c] w fun e w' => e = .returned (.bool true) ∧ Chg [] w w' := by
  obtain ⟨b, hb⟩ : ∃ b, b = w.heap.size := ⟨_, rfl⟩
  have HD := Lib.hid (And.intro hn (And.intro hd (And.intro hwf hb)))
  have hbw : b ≤ w.heap.size := by omega
  clear hn hd hwf hb
  go_enter Try.func4, Try.ntmps4
  go_wp2_with fail
  refine (awake20_any w).mono ?_
  rintro e w1 ⟨rfl, c1⟩
  have hbw1 : b ≤ w1.heap.size := by have := c1.size; omega
  have H1 := Lib.hid c1
  clear c1
  by_cases hmany : 100 < n
  · have hd1 : decide ((100 : Int) < (n : Int)) = true := decide_eq_true (by omega)
    go_wp2_with fail
    go_ret
    exact ⟨rfl, H1.out⟩
  · have hd1 : decide ((100 : Int) < (n : Int)) = false := decide_eq_false (by omega)
    have h2 := newSP w1
    go_wp2_with fail
    refine h2.mono ?_
    clear h2
    rintro e w2 ⟨rfl, h2, c2⟩
    have hsp : SP b w2 w1.heap.size [] := by
      obtain ⟨a, c, l, g1, g2, g3⟩ := h2
      exact ⟨a, c, l, g1, g2, fun k hk => by have := g3 k hk; omega⟩
    have hbw2 : b ≤ w2.heap.size := by have := c2.size; omega
    have hx := hist_new hsp rfl hbw2
    have hca := (Chg.refl [] w2).alloc (.cells #[.pointer (some ⟨w1.heap.size, 0, none⟩), .slice none 0 0, .slice none 0 0, .slice none 0 0, .int .i64 0] 31)
    obtain ⟨H, hH⟩ : ∃ H, H = w2.heap.size := ⟨_, rfl⟩
    rw [← hH] at hx
    have HX := Lib.hid (And.intro hx (And.intro ((ChgB.of0 (b := b) (H1.out.tr (c2.tr hca)))) hH))
    clear h2 hsp hx hca c2 hH
    go_wp2_with fail
    rw [← HX.out.2.2]
    go_loopg [4] n (fun dd iv wr => ∃ i : Nat, dd = n - i ∧ i ≤ n ∧ iv = .int .i64 i ∧ Hid (HPX b wr H (runAt ds i) ∧ ChgB b w wr))
    case atStart => exact ⟨0, rfl, Nat.zero_le _, rfl, Lib.hid ⟨by rw [runAt_zero]; exact HX.out.1, HX.out.2.1⟩⟩
    case round =>
      obtain ⟨i, rfl, hi, rfl, hI⟩ := hrel
      obtain ⟨wq, rfl⟩ : ∃ wq, wq = wr := ⟨_, rfl⟩
      have hbq : b ≤ wq.heap.size := by have := hI.out.2.size; omega
      by_cases hil : i < n
      · have hiL : i < ds.length := by have := HD.out.1; omega
        have hdi : ds[i]? = some ds[i] := List.getElem?_eq_getElem hiL
        have hinv := inv_runAt ds i (by omega)
        have hinv2 := inv_runAt ds (i + 1) (by omega)
        obtain ⟨g, o, eg, y0, y1, y2⟩ := HD.out.2.1 i hiL
        subst eg
        have hw64 := HD.out.2.2.1 ds[i] (List.getElem_mem hiL)
        have hcw : Chg [] w wq := hI.out.2.done (by have := HD.out.2.2.2; omega)
        have hdo := fun (W : World) (hW : Chg [] wq W) => doX_any b W H i (runAt ds i) hinv (by omega) (HP.chg0 hI.out.1 hW) (by have := hW.size; omega) ds[i] hw64.1 hw64.2
        rw [← runAt_succ ds hdi] at hdo
        obtain ⟨d, hdd⟩ : ∃ d, d = ds[i] := ⟨_, rfl⟩
        rw [← hdd] at y0 y1 y2 hdo
        obtain ⟨what, rule, on⟩ := d
        simp only at y0 y1 y2 hdo
        replace y0 := hcw.cell y0 (by simp)
        replace y1 := hcw.cell y1 (by simp)
        replace y2 := hcw.cell y2 (by simp)
        have hi1 : (i : Int) < n := by omega
        have HO := Lib.hid (And.intro hdo (And.intro hinv hinv2))
        clear hiL hdi hinv hinv2 hw64 hcw hdo hdd
        obtain ⟨X, hX⟩ : ∃ X, X = runAt ds (i + 1) := ⟨_, rfl⟩
        rw [← hX] at HO
        by_cases h0 : X.l = []
        · have HL : Hid (X.l.length = 0) := Lib.hid (by rw [h0]; rfl)
          have HTV : Hid (tntB X.s = false) := Lib.hid (HO.out.2.2.tainted0 h0)
          have HEX := Lib.hid hX
          clear h0 hX
          go_wp2_with fail
          refine wp_region_any (by kernel_rfl) ?_
          change wpAny _ _ _ _ _ _ _ (World.drew _)
          refine wpAny_take (i := 0) (v := ?v0) rfl (by kernel_rfl) (by kernel_rfl) (by kernel_rfl) (fun _ _ _ h => h) (Or.inl ⟨by rfl, ?h0⟩) ?r0
          case h0 =>
            intro w
            go_simp
            all_goals with_reducible rfl
          refine wpAny_take (i := 1) (v := ?v1) rfl (by kernel_rfl) (by kernel_rfl) (by kernel_rfl) (fun _ _ _ h => h) (Or.inl ⟨by rfl, ?h1⟩) ?r1
          case h1 =>
            intro w
            go_simp
            all_goals with_reducible rfl
          refine wpAny_take (i := 2) (v := ?v2) rfl (by kernel_rfl) (by kernel_rfl) (by kernel_rfl) (fun _ _ _ h => h) (Or.inl ⟨by rfl, ?h2⟩) ?r2
          case h2 =>
            intro w
            go_simp
            all_goals with_reducible rfl
          refine wpAny_take (i := 3) (v := ?v3) rfl (by kernel_rfl) (by kernel_rfl) (by kernel_rfl) (fun _ _ _ h => h) (Or.inl ⟨by rfl, ?h3⟩) ?r3
          case h3 =>
            intro w
            go_simp
            all_goals with_reducible rfl
          refine wpAny_take (i := 4) (v := ?v4) rfl (by kernel_rfl) (by kernel_rfl) (by kernel_rfl) (fun _ _ _ h => h) (Or.inl ⟨by rfl, ?h4⟩) ?r4
          case h4 =>
            intro w
            go_simp
            all_goals with_reducible rfl
          refine wpAny_ready (rs := [5]) (by kernel_rfl) (by simp) ?_
          refine AllReady.cons rfl (fun K hK => ?_) AllReady.nil
          go_simp
          refine hK _ _ ?_
          clear hK K
          refine wpAny_ready (rs := [6]) (by kernel_rfl) (by simp) ?_
          refine AllReady.cons rfl (fun K hK => ?_) AllReady.nil
          go_simp
          go_wp2_with (go_at_call 10; refine (HO.out.1 _ (Chg.refl _ _).drew).mono ?_; rintro e w4 ⟨rfl, hx4, cb4⟩; obtain ⟨B4, hsp4, y4, hh4, el4, er4, et4⟩ := hx4.sp; obtain ⟨x0, x1, -, -, -⟩ := cellsH5 hh4.top; rw [el4, HL.out] at x1; have H4 := Lib.hid (And.intro hx4 (And.intro cb4 (And.intro hsp4 (And.intro hh4 (And.intro el4 er4))))); clear hx4 cb4 hsp4 hh4 el4 er4 et4)
          have cT := calls_rg (w := w4) (fun W hW => taintedSP b W B4 _ (H4.out.2.2.1.chg0 hW))
          rw [HTV.out] at cT
          have k0 := cell_rg x0
          have k1 := cell_rg x1
          clear x0 x1
          refine wpAny_quiet_rest 7 rfl (by kernel_rfl) ?_
          simp only [List.drop_succ_cons, List.drop_zero]
          repeat (go_big_quiet_step (with_reducible exact cT _ _))
          refine wpQuiet_nil ?_
          intro w5 hw5
          have HC := Lib.hid (chg_of_rg hw5)
          clear hw5 cT k0 k1
          go_wp2_with fail
          go_roundg (n - (i + 1))
          case measure => omega
          case rel => exact ⟨i + 1, rfl, by omega, by go_num, Lib.hid ⟨by rw [← HEX.out]; exact HP.chg0 H4.out.1 HC.out, (hI.out.2.tr ((ChgB.of0 (Chg.refl _ _).drew).tr H4.out.2.1)).tr (.of0 HC.out)⟩⟩
        · obtain ⟨k, hk⟩ : ∃ k, X.l.length = k + 1 := ⟨X.l.length - 1, by have : 0 < X.l.length := List.length_pos_iff.2 h0; omega⟩
          have hgk : X.l[k]? = some (X.l[k]'(by omega)) := List.getElem?_eq_getElem _
          have HL := Lib.hid hk
          obtain ⟨g9, hg9⟩ : ∃ g, g = X.l[k]'(by omega) := ⟨_, rfl⟩
          rw [← hg9] at hgk
          obtain ⟨tv, htv⟩ : ∃ v, v = tntB X.s := ⟨_, rfl⟩
          have hth := HO.out.2.2.tainted hk.symm hgk
          rw [← htv] at hth
          have HTV := Lib.hid htv.symm
          have HL2 := Lib.hid (And.intro hgk hth)
          have HEX := Lib.hid hX
          have hkk : k ≤ 1000 := by have := HO.out.2.2.sizes; omega
          have hws : IntKind.i64.wrap (((k + 1 : Nat) : Int) - 1) = k := by rw [show ((k + 1 : Nat) : Int) - 1 = k by omega]; exact IntWalk.i64_in _ (by omega)
          have hdk : decide ((0 : Int) < ((k + 1 : Nat) : Int)) = true := decide_eq_true (by omega)
          have hnb : (tv != tv) = false := by cases tv <;> rfl
          clear h0 hX hk hgk hg9 htv hth
          go_wp2_with fail
          refine wp_region_any (by kernel_rfl) ?_
          change wpAny _ _ _ _ _ _ _ (World.drew _)
          refine wpAny_take (i := 0) (v := ?vb0) rfl (by kernel_rfl) (by kernel_rfl) (by kernel_rfl) (fun _ _ _ h => h) (Or.inl ⟨by rfl, ?hb0⟩) ?rb0
          case hb0 =>
            intro w
            go_simp
            all_goals with_reducible rfl
          refine wpAny_take (i := 1) (v := ?vb1) rfl (by kernel_rfl) (by kernel_rfl) (by kernel_rfl) (fun _ _ _ h => h) (Or.inl ⟨by rfl, ?hb1⟩) ?rb1
          case hb1 =>
            intro w
            go_simp
            all_goals with_reducible rfl
          refine wpAny_take (i := 2) (v := ?vb2) rfl (by kernel_rfl) (by kernel_rfl) (by kernel_rfl) (fun _ _ _ h => h) (Or.inl ⟨by rfl, ?hb2⟩) ?rb2
          case hb2 =>
            intro w
            go_simp
            all_goals with_reducible rfl
          refine wpAny_take (i := 3) (v := ?vb3) rfl (by kernel_rfl) (by kernel_rfl) (by kernel_rfl) (fun _ _ _ h => h) (Or.inl ⟨by rfl, ?hb3⟩) ?rb3
          case hb3 =>
            intro w
            go_simp
            all_goals with_reducible rfl
          refine wpAny_take (i := 4) (v := ?vb4) rfl (by kernel_rfl) (by kernel_rfl) (by kernel_rfl) (fun _ _ _ h => h) (Or.inl ⟨by rfl, ?hb4⟩) ?rb4
          case hb4 =>
            intro w
            go_simp
            all_goals with_reducible rfl
          refine wpAny_ready (rs := [5]) (by kernel_rfl) (by simp) ?_
          refine AllReady.cons rfl (fun K hK => ?_) AllReady.nil
          go_simp
          refine hK _ _ ?_
          clear hK K
          refine wpAny_ready (rs := [6]) (by kernel_rfl) (by simp) ?_
          refine AllReady.cons rfl (fun K hK => ?_) AllReady.nil
          go_simp
          go_wp2_with (go_at_call 10; refine (HO.out.1 _ (Chg.refl _ _).drew).mono ?_; rintro e w4 ⟨rfl, hx4, cb4⟩; obtain ⟨B4, hsp4, y4, hh4, el4, er4, et4⟩ := hx4.sp; obtain ⟨x0, x1, -, -, -⟩ := cellsH5 hh4.top; rw [el4, HL.out] at x1; have H4 := Lib.hid (And.intro hx4 (And.intro cb4 (And.intro hsp4 (And.intro hh4 (And.intro el4 er4))))); clear hx4 cb4 hsp4 hh4 el4 er4 et4)
          have cT := calls_rg (w := w4) (fun W hW => taintedSP b W B4 _ (H4.out.2.2.1.chg0 hW))
          rw [HTV.out] at cT
          have hky : k < y4.l.length := by rw [H4.out.2.2.2.2.1, HL.out]; exact Nat.lt_succ_self k
          have cH := calls_rg (w := w4) (fun W hW => hangs_any b W H B4 y4 (H4.out.2.2.2.1.chg0 hW) k hky)
          rw [hangV HL2.out H4.out.2.2.2.2.1 H4.out.2.2.2.2.2 hky] at cH
          have k0 := cell_rg x0
          have k1 := cell_rg x1
          clear x0 x1 hky
          refine wpAny_quiet_rest 7 rfl (by kernel_rfl) ?_
          simp only [List.drop_succ_cons, List.drop_zero]
          repeat (go_big_quiet_step (first | (with_reducible exact cT _ _) | (with_reducible exact cH _ _)))
          refine wpQuiet_nil ?_
          intro w5 hw5
          have HC := Lib.hid (chg_of_rg hw5)
          clear hw5 cT cH k0 k1
          go_wp2_with fail
          go_roundg (n - (i + 1))
          case measure => omega
          case rel => exact ⟨i + 1, rfl, by omega, by go_num, Lib.hid ⟨by rw [← HEX.out]; exact HP.chg0 H4.out.1 HC.out, (hI.out.2.tr ((ChgB.of0 (Chg.refl _ _).drew).tr H4.out.2.1)).tr (.of0 HC.out)⟩⟩
      · obtain rfl : i = n := by omega
        obtain ⟨X, hX⟩ : ∃ X, X = runAt ds i := ⟨_, rfl⟩
        have hinv := inv_runAt ds i (by have := HD.out.1; omega)
        have hxI := hI.out
        rw [← hX] at hinv hxI
        have HY := Lib.hid (And.intro hinv hxI)
        obtain ⟨q, hq⟩ : ∃ q, q = X.l.length := ⟨_, rfl⟩
        have HQ := Lib.hid hq
        clear hX hinv hxI hq
        go_wp2_with fail
        go_loopg [] q (fun dd wr => ∃ r : Nat, dd = r + 0 ∧ Hid (∃ Y : Stt, r = Y.l.length ∧ HIv i Y ∧ HPX b wr H Y ∧ ChgB b w wr))
        case atStart => exact ⟨q, rfl, Lib.hid ⟨X, HQ.out, HY.out.1, HY.out.2.1, HY.out.2.2⟩⟩
        case round =>
          obtain ⟨r, hdq, hY⟩ := hrel
          obtain ⟨Y, hr, hYi, hYx, hYc⟩ := hY.out
          obtain ⟨wz, rfl⟩ : ∃ wz, wz = wr := ⟨_, rfl⟩
          have hbz : b ≤ wz.heap.size := by have := hYc.size; omega
          obtain ⟨B4, hsp4, y4, hh4, el4, er4, et4⟩ := hYx.sp
          obtain ⟨-, x1, -, -, -⟩ := cellsH5 hh4.top
          rw [el4, ← hr] at x1
          cases r with
          | zero =>
            have HF := Lib.hid (hYc.done (by have := HD.out.2.2.2; omega))
            clear hr hYi hYx hYc hsp4 hh4 el4 er4 et4 hY
            go_wp2_with fail
            go_ret
            exact ⟨rfl, HF.out⟩
          | succ r =>
            have hlv := leaveX_any b wz H i Y hYi (by omega) hYx hbz
            have hrs : (leaveX Y).l.length = r := by simp [leaveX]; omega
            have hdk : decide ((0 : Int) < ((r + 1 : Nat) : Int)) = true := decide_eq_true (by omega)
            have HL := Lib.hid (And.intro hlv (And.intro hrs (And.intro hYi.leave hYc)))
            clear hr hYi hYx hYc hsp4 hh4 el4 er4 et4 hY hlv hrs
            go_wp2_with fail
            refine HL.out.1.mono ?_
            rintro e w5 ⟨rfl, h5, c5⟩
            have HN := Lib.hid (And.intro h5 (HL.out.2.2.2.tr c5))
            clear h5 c5 x1
            go_wp2_with fail
            go_roundg r
            case measure => omega
            case rel => exact ⟨r, rfl, Lib.hid ⟨leaveX Y, HL.out.2.1.symm, HL.out.2.2.1, HN.out.1, HN.out.2⟩⟩
end Go.Proofs.Ytnajhcoimohcaaa

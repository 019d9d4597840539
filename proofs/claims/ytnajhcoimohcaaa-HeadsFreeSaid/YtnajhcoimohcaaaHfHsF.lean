/-
  HeadsFree: the walk.
  Conditions: none.
-/
import Derived.Test.YtnajhcoimohcaaaHfHsT
set_option linter.unusedVariables false
set_option linter.unusedSimpArgs false
set_option linter.unnecessarySimpa false
namespace Go.Proofs.Ytnajhcoimohcaaa
open Go.RowKit Go.MapKept

def noneB (X : Stt) (p : Int) (zs : List Int) (j : Nat) : Bool := (zs.take j).all fun r => decide (whereI X.l r p < 0)
theorem noneB_zero (X : Stt) (p : Int) (zs : List Int) : noneB X p zs 0 = true := by simp [noneB]
theorem noneB_succ (X : Stt) (p : Int) {zs : List Int} {j : Nat} (h : j < zs.length) : noneB X p zs (j + 1) = (noneB X p zs j && decide (whereI X.l zs[j] p < 0)) := by
  unfold noneB
  rw [List.take_succ_eq_append_getElem h, List.all_append]
  simp
theorem noneB_all {k : Nat} {X : Stt} (h : HIv k X) (p : Int) {zs : List Int} {j : Nat} (hj : j = zs.length) : freeB X.s p zs = noneB X p zs j := by
  subst hj
  unfold freeB noneB
  rw [List.take_length]
  congr 1
  funext r
  rw [h.at_eq]

set_option maxRecDepth 100000 in
set_option maxHeartbeats 8000000 in
theorem headsFree_any (w : World) (a : Option Addr) (n c : Nat) (ds : List Stp) (hn : n = ds.length) (hc : n ≤ c) (hcm : c ≤ 9223372036854775807) (hd : Steps w a ds) (hwf : ∀ y ∈ ds, I64 y.what ∧ I64 y.rule)
    (a2 : Option Addr) (n2 c2 : Nat) (zs : List Int) (hn2 : n2 = zs.length) (hc2 : n2 ≤ c2) (hcm2 : c2 ≤ 9223372036854775807) (hz : Ints w a2 zs) (hzw : ∀ z ∈ zs, I64 z) (p : Int) (hp : I64 p) :
    Calls Try.prog 5 #[.slice a n c, .slice a2 n2 c2, .int .i64 p] w fun e w' => e = .returned (.bool true) ∧ Chg [] w w' := by
  obtain ⟨b, hb⟩ : ∃ b, b = w.heap.size := ⟨_, rfl⟩
  have HD := Lib.hid (And.intro hn (And.intro hd (And.intro hwf hb)))
  have HZ := Lib.hid (And.intro hn2 (And.intro hz hzw))
  have hbw : b ≤ w.heap.size := by omega
  clear hn hd hwf hb hn2 hz hzw hp
  go_enter Try.func5, Try.ntmps5
  go_wp2_with fail
  refine (awake20_any w).mono ?_
  rintro e w1 ⟨rfl, c1⟩
  have hbw1 : b ≤ w1.heap.size := by have := c1.size; omega
  have H1 := Lib.hid c1
  clear c1
  by_cases hmany : 100 < n
  · have hd1 : decide ((100 : Int) < (n : Int)) = true := decide_eq_true (by omega)
    go_wp2_with fail
    go_ret
    exact ⟨rfl, H1.out⟩
  have hd1 : decide ((100 : Int) < (n : Int)) = false := decide_eq_false (by omega)
  by_cases hmany2 : 100 < n2
  · have hd2 : decide ((100 : Int) < (n2 : Int)) = true := decide_eq_true (by omega)
    go_wp2_with fail
    go_ret
    exact ⟨rfl, H1.out⟩
  have hd2 : decide ((100 : Int) < (n2 : Int)) = false := decide_eq_false (by omega)
  have h2 := newSP w1
  go_wp2_with fail
  refine h2.mono ?_
  clear h2
  rintro e w2 ⟨rfl, h2, c2'⟩
  have hsp : SP b w2 w1.heap.size [] := by
    obtain ⟨a, c, l, g1, g2, g3⟩ := h2
    exact ⟨a, c, l, g1, g2, fun k hk => by have := g3 k hk; omega⟩
  have hbw2 : b ≤ w2.heap.size := by have := c2'.size; omega
  have hx := hist_new hsp rfl hbw2
  have hca := (Chg.refl [] w2).alloc (.cells #[.pointer (some ⟨w1.heap.size, 0, none⟩), .slice none 0 0, .slice none 0 0, .slice none 0 0, .int .i64 0] 31)
  obtain ⟨H, hH⟩ : ∃ H, H = w2.heap.size := ⟨_, rfl⟩
  rw [← hH] at hx
  have HX := Lib.hid (And.intro hx (And.intro ((ChgB.of0 (b := b) (H1.out.tr (c2'.tr hca)))) hH))
  clear h2 hsp hx hca c2' hH
  go_wp2_with fail
  rw [← HX.out.2.2]
  go_loopg [8] n (fun dd iv wr => ∃ i : Nat, dd = n - i ∧ i ≤ n ∧ iv = .int .i64 i ∧ Hid (HPX b wr H (runAt ds i) ∧ ChgB b w wr))
  case atStart => exact ⟨0, rfl, Nat.zero_le _, rfl, Lib.hid ⟨by rw [runAt_zero]; exact HX.out.1, HX.out.2.1⟩⟩
  case round =>
    obtain ⟨i, rfl, hi, rfl, hI⟩ := hrel
    obtain ⟨wq, rfl⟩ : ∃ wq, wq = wr := ⟨_, rfl⟩
    have hbq : b ≤ wq.heap.size := by have := hI.out.2.size; omega
    by_cases hil : i < n
    · have hiL : i < ds.length := by have := HD.out.1; omega
      have hdi : ds[i]? = some ds[i] := List.getElem?_eq_getElem hiL
      have hinv := inv_runAt ds i (by omega)
      have hinv2 := inv_runAt ds (i + 1) (by omega)
      obtain ⟨g, o, eg, y0, y1, y2⟩ := HD.out.2.1 i hiL
      subst eg
      have hw64 := HD.out.2.2.1 ds[i] (List.getElem_mem hiL)
      have hcw : Chg [] w wq := hI.out.2.done (by have := HD.out.2.2.2; omega)
      have hdo := doX_any b wq H i (runAt ds i) hinv (by omega) hI.out.1 hbq ds[i] hw64.1 hw64.2
      rw [← runAt_succ ds hdi] at hdo
      obtain ⟨d, hdd⟩ : ∃ d, d = ds[i] := ⟨_, rfl⟩
      rw [← hdd] at y0 y1 y2 hdo
      obtain ⟨what, rule, on⟩ := d
      simp only at y0 y1 y2 hdo
      replace y0 := hcw.cell y0 (by simp)
      replace y1 := hcw.cell y1 (by simp)
      replace y2 := hcw.cell y2 (by simp)
      have hi1 : (i : Int) < n := by omega
      have HO := Lib.hid (And.intro hdo (And.intro hinv hinv2))
      clear hiL hdi hinv hinv2 hw64 hcw hdo hdd
      obtain ⟨X, hX⟩ : ∃ X, X = runAt ds (i + 1) := ⟨_, rfl⟩
      rw [← hX] at HO
      have HEX := Lib.hid hX
      clear hX
      go_wp2_with fail
      refine HO.out.1.mono ?_
      rintro e w4 ⟨rfl, hx4, cb4⟩
      obtain ⟨B4, hsp4, y4, hh4, el4, er4, et4⟩ := hx4.sp
      have H4 := Lib.hid (And.intro hx4 (And.intro (hI.out.2.tr cb4) (And.intro hsp4 (And.intro hh4 el4))))
      clear hx4 cb4 hsp4 hh4 el4 er4 et4 y0 y1 y2
      go_wp2_with fail
      go_loopg [9, 10] n2 (fun dd nv jv wr => ∃ j : Nat, dd = n2 - j ∧ j ≤ n2 ∧ jv = .int .i64 j ∧ nv = .bool (noneB X p zs j) ∧ Hid (Chg [] w4 wr))
      case atStart => exact ⟨0, rfl, Nat.zero_le _, rfl, by rw [noneB_zero], Lib.hid (Chg.refl _ _)⟩
      case round =>
        obtain ⟨j, rfl, hj, rfl, rfl, hJ⟩ := hrel
        obtain ⟨wz, rfl⟩ : ∃ wz, wz = wr := ⟨_, rfl⟩
        have hcz : Chg [] w wz := (H4.out.2.1.done (by have := HD.out.2.2.2; omega)).tr hJ.out
        by_cases hjl : j < n2
        · have hjL : j < zs.length := by have := HZ.out.1; omega
          obtain ⟨g2, o2, eg2, u0⟩ := HZ.out.2.1 j hjL
          subst eg2
          replace u0 := hcz.cell u0 (by simp)
          have hnx := noneB_succ X p hjL
          obtain ⟨z, hz⟩ : ∃ z, z = zs[j] := ⟨_, rfl⟩
          rw [← hz] at u0 hnx
          obtain ⟨W, hW⟩ : ∃ v, v = whereI X.l z p := ⟨_, rfl⟩
          rw [← hW] at hnx
          have hwh := where_any b wz H B4 y4 (H4.out.2.2.2.1.chg0 hJ.out) z p
          rw [H4.out.2.2.2.2, ← hW] at hwh
          obtain ⟨nb, hnb⟩ : ∃ v, v = noneB X p zs j := ⟨_, rfl⟩
          rw [← hnb] at hnx ⊢
          have hj1 : (j : Int) < n2 := by omega
          have HN := Lib.hid (And.intro hnx hwh)
          clear hnx hwh hnb hW hz hjL hcz
          cases nb with
          | false =>
            go_wp2_with fail
            go_roundg (n2 - (j + 1))
            case measure => omega
            case rel => exact ⟨j + 1, rfl, by omega, by go_num, by rw [HN.out.1]; rfl, hJ⟩
          | true =>
            go_wp2_with fail
            refine HN.out.2.mono ?_
            rintro e w5 ⟨rfl, c5⟩
            have HC5 := Lib.hid (hJ.out.tr c5)
            clear c5 u0
            go_wp2_with fail
            go_roundg (n2 - (j + 1))
            case measure => omega
            case rel => exact ⟨j + 1, rfl, by omega, by go_num, by rw [HN.out.1]; simp, HC5⟩
        · obtain rfl : j = n2 := by omega
          obtain ⟨nb, hnb⟩ : ∃ v, v = noneB X p zs j := ⟨_, rfl⟩
          rw [← hnb]
          have hfr := freeSP b wz B4 X.s (H4.out.2.2.1.chg0 hJ.out) p a2 j c2 zs HZ.out.1 hc2 hcm2 (fun i hi => by
            obtain ⟨g, o, e, h⟩ := HZ.out.2.1 i hi
            exact ⟨g, o, e, hcz.cell h (by simp)⟩)
          rw [noneB_all HO.out.2.2 p HZ.out.1, ← hnb] at hfr
          have hf0 := fun (W : World) (hW : Chg [] wz W) => freeSP b W B4 X.s ((H4.out.2.2.1.chg0 hJ.out).chg0 hW) p none 0 0 [] rfl (Nat.le_refl _) (by decide) (Ints.nil _ _)
          have hh4 := H4.out.2.2.2.1.chg0 hJ.out
          obtain ⟨x0, -, -, -, -⟩ := cellsH5 hh4.top
          have hnn : (nb != nb) = false := by cases nb <;> rfl
          have HN := Lib.hid (And.intro hfr hf0)
          clear hnb hfr hf0 hh4 hcz
          go_wp2_with fail
          refine HN.out.1.mono ?_
          rintro e w5 ⟨rfl, c5⟩
          have hf1 := HN.out.2 w5 c5
          rw [show freeB X.s p [] = true from rfl] at hf1
          replace x0 := c5.cell x0 (by simp)
          have HC5 := Lib.hid c5
          clear c5
          go_wp2_with fail
          refine hf1.mono ?_
          clear hf1
          rintro e w6 ⟨rfl, c6⟩
          have HC6 := Lib.hid (hJ.out.tr (HC5.out.tr c6))
          clear c6 x0
          go_wp2_with fail
          go_roundg (n - (i + 1))
          case measure => omega
          case rel => exact ⟨i + 1, rfl, by omega, by go_num, Lib.hid ⟨by rw [← HEX.out]; exact HP.chg0 H4.out.1 HC6.out, H4.out.2.1.tr (.of0 HC6.out)⟩⟩
    · obtain rfl : i = n := by omega
      have HF := Lib.hid (hI.out.2.done (by have := HD.out.2.2.2; omega))
      go_wp2_with fail
      go_ret
      exact ⟨rfl, HF.out⟩
end Go.Proofs.Ytnajhcoimohcaaa

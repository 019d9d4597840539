/-
  The kit: a number of so many.
  Conditions: there is one at least.
-/
import Derived.Test.YtnajhcoimohcaaaSmGBase
import Derived.Test.YtnajhcoimohcaaaSmHs7
set_option linter.unusedVariables false
set_option linter.unusedSimpArgs false
namespace Go.Proofs.Ytnajhcoimohcaaa
open Go.RowKit Go.MapKept Go.Shelf

theorem tmod_emodK (x n : Int) : x.tmod n % n = x % n := by
  have h := Int.mul_tdiv_add_tmod x n
  have : x.tmod n = x - n * x.tdiv n := by omega
  rw [this, Int.sub_mul_emod_self_left]
theorem pick_posK (x n : Int) (hn : 1 ≤ n) (h : 0 ≤ x.tmod n) : x.tmod n = x % n := by
  have t1 := Int.tmod_lt_of_pos x (show 0 < n by omega)
  rw [← tmod_emodK, Int.emod_eq_of_lt h t1]
theorem pick_negK (x n : Int) (hn : 1 ≤ n) (h : x.tmod n < 0) : x.tmod n + n = x % n := by
  have t2 := Int.lt_tmod_of_pos x (show 0 < n by omega)
  rw [← tmod_emodK, ← Int.add_emod_right, Int.emod_eq_of_lt (by omega) (by omega)]
set_option maxHeartbeats 400000 in
theorem pickK_any (x n : Int) (w : World) (hn : 1 ≤ n) (hn2 : n ≤ 1000000) (h1 : -9223372036854775808 ≤ x) (h2 : x ≤ 9223372036854775807) :
    Calls Try.prog 35 #[.int .i64 x, .int .i64 n] w fun e w' => e = .returned (.int .i64 (x % n)) ∧ Chg [] w w' := by
  have t1 := Int.tmod_lt_of_pos x (show 0 < n by omega)
  have t2 := Int.lt_tmod_of_pos x (show 0 < n by omega)
  go_enter Try.func35, Try.ntmps35
  go_wp2
  all_goals go_ret
  all_goals refine ⟨ret_int ?_, Chg.refl _ _⟩
  · exact pick_negK x n hn (by assumption)
  · exact pick_posK x n hn (by assumption)
end Go.Proofs.Ytnajhcoimohcaaa
set_option linter.unusedVariables false
set_option linter.unusedSimpArgs false
set_option linter.unnecessarySimpa false
namespace Go.Proofs.Ytnajhcoimohcaaa
open Go.RowKit Go.MapKept

def HPX (b : Nat) (w : World) (H : Nat) (x : Stt) : Prop := HP b w H x.s x.l x.rs x.ts
def OutX (b : Nat) (w : World) (H : Nat) (x : Stt) (e : Ending) (w' : World) : Prop := e = .returned (.bool true) ∧ HPX b w' H x ∧ ChgB b w w'
theorem enterH_out {b : Nat} {w : World} {H k : Nat} {x : Stt} (h : HIv k x) {rule p : Int} (hp : nowI x.l ≤ p) {e : Ending} {w' : World} (hE : EnterH b w H x.s x.l x.rs x.ts k rule p e w') : OutX b w H (enterX k rule p x) e w' := by
  unfold EnterH at hE
  unfold enterX
  have hat := h.at_eq rule p
  by_cases hw : 0 ≤ whereI x.l rule p
  · rw [if_pos hw] at hE ⊢
    have e2 : (enterS x.s rule p).2 = 8 := by unfold enterS; rw [hat, if_pos hw]
    rw [e2] at hE
    exact hE
  · rw [if_neg hw] at hE ⊢
    have e2 : (enterS x.s rule p).2 = 0 := by unfold enterS; rw [hat, if_neg hw, h.low hp]; rfl
    rw [e2] at hE
    exact hE
theorem readH_out {b : Nat} {w : World} {H k : Nat} {x : Stt} (h : HIv k x) {rule p : Int} {e : Ending} {w' : World} (hE : ReadH b w H x.s x.l x.rs x.ts k rule p e w') : OutX b w H (readX k rule p x) e w' := by
  unfold ReadH at hE
  unfold readX
  have hat := h.at_eq rule p
  by_cases hw : 0 ≤ whereI x.l rule p
  · rw [if_pos hw] at hE ⊢
    have e2 : (readS x.s rule p).2 = 0 := by unfold readS; rw [hat, if_neg (by omega)]
    rw [e2] at hE
    exact hE
  · rw [if_neg hw] at hE ⊢
    have e2 : (readS x.s rule p).2 = 5 := by unfold readS; rw [hat, if_pos (by omega)]
    rw [e2] at hE
    exact hE
theorem useH_out {b : Nat} {w : World} {H k : Nat} {x : Stt} (h : HIv k x) {rule : Int} {e : Ending} {w' : World} (hE : UseH b w H x.s x.l x.rs x.ts k rule (nowI x.l) e w') : OutX b w H (useX k rule (nowI x.l) x) e w' := by
  unfold UseH at hE
  have e2 : (useS x.s (nowI x.l) [rule]).2 = 0 := by unfold useS; rw [h.low (Int.le_refl _)]; rfl
  rw [e2] at hE
  exact hE
theorem leaveX_any (b : Nat) (w : World) (H k : Nat) (x : Stt) (hI : HIv k x) (hk : k ≤ 1000) (h : HPX b w H x) (hbw : b ≤ w.heap.size) :
    Calls Try.prog 15 #[.pointer (some ⟨H, 0, none⟩)] w (OutX b w H (leaveX x)) := by
  obtain ⟨s, l, rs, ts⟩ := x
  have hlen := hI.len
  have hsz := hI.sizes
  simp only at hlen hsz
  by_cases h0 : l = []
  · subst h0
    have hs : s = [] := List.eq_nil_of_length_eq_zero hlen
    subst hs
    exact leaveH_nil b w H rs ts h
  · obtain ⟨n, hn⟩ : ∃ n, n + 1 = l.length := ⟨l.length - 1, by have : 0 < l.length := List.length_pos_iff.2 h0; omega⟩
    have hg : l[n]? = some (l[n]'(by omega)) := List.getElem?_eq_getElem _
    have hf : s[n]? = some (s[n]'(by omega)) := List.getElem?_eq_getElem _
    have ha := hI.agree n _ _ hf hg
    have hs := ha.size
    simp only at hs
    have := leaveH_any b w H s l rs ts h hbw n hn hlen (by omega) _ hf _ hg ha.rule ha.place ha.tnt (by omega) (by omega) (fun z hz => (ha.tch z).1 hz) ha.rises (fun t _ ht => (ha.tch _).2 ht)
    unfold leaveX OutX HPX
    simp only
    rw [← hn, Nat.add_sub_cancel]
    exact this

set_option maxRecDepth 100000 in
set_option maxHeartbeats 4000000 in
theorem doX_any (b : Nat) (w : World) (H k : Nat) (x : Stt) (hI : HIv k x) (hk : k ≤ 1000) (h : HPX b w H x) (hbw : b ≤ w.heap.size) (d : Stp) (hw64 : I64 d.what) (hr64 : I64 d.rule) :
    Calls Try.prog 10 #[.pointer (some ⟨H, 0, none⟩), .int .i64 k, .agg #[.int .i64 d.what, .int .i64 d.rule, .bool d.on]] w (OutX b w H (stepX k d x)) := by
  obtain ⟨what, rule, on⟩ := d
  simp only at *
  obtain ⟨M, hM⟩ : ∃ z, z = what % 4 := ⟨_, rfl⟩
  have hM0 : 0 ≤ M ∧ M < 4 := by omega
  have hnow := hI.now
  have hsz := hI.sizes
  have hca := (Chg.refl [] w).alloc (.cells #[.int .i64 what, .int .i64 rule, .bool on] 35)
  have hnew := heap_alloc_same w (.cells #[.int .i64 what, .int .i64 rule, .bool on] 35)
  obtain ⟨wa, ea⟩ : ∃ wa, wa = w.alloc (.cells #[.int .i64 what, .int .i64 rule, .bool on] 35) := ⟨_, rfl⟩
  rw [← ea] at hca hnew
  have h1 := pickK_any what 4 wa (by omega) (by omega) hw64.1 hw64.2
  rw [← hM] at h1
  obtain ⟨b0, b1, b2⟩ := cellsH3 hnew
  have HH := Lib.hid (And.intro hI (And.intro h (And.intro hbw (And.intro hca (And.intro hM (And.intro hr64 (And.intro hnow (And.intro hsz (And.intro hk hnew)))))))))
  clear hI h hbw hca hM hr64 hw64 hnow hsz hk hnew b1 b2
  go_enter Try.func10, Try.ntmps10
  have b0' := b0
  rw [ea] at b0'
  go_wp2_with fail
  rw [← ea]
  refine h1.mono ?_
  clear h1 b0 b0'
  rintro e w1 ⟨rfl, hc1⟩
  have hh1 : HP b w1 H x.s x.l x.rs x.ts := HP.chg0 (HP.chg0 HH.out.2.1 HH.out.2.2.2.1) hc1
  have hcw := HH.out.2.2.2.1.tr hc1
  obtain ⟨b0, b1, b2⟩ := cellsH3 (hc1.heap HH.out.2.2.2.2.2.2.2.2.2 (by simp))
  have hbw1 : b ≤ w1.heap.size := by have := HH.out.2.2.1; have := hcw.size; omega
  rcases (show M = 0 ∨ M = 1 ∨ M = 2 ∨ M = 3 by omega) with rfl | rfl | rfl | rfl
  · have h4 := enterH_any b w1 H x.s x.l x.rs x.ts hh1 hbw1 (by have := HH.out.1.len; have := HH.out.2.2.2.2.2.2.2.1; have := HH.out.2.2.2.2.2.2.2.2.1; omega) (by have := HH.out.2.2.2.2.2.2.2.1; have := HH.out.2.2.2.2.2.2.2.2.1; omega) (by have := HH.out.2.2.2.2.2.2.2.1; have := HH.out.2.2.2.2.2.2.2.2.1; omega) (by have := HH.out.2.2.2.2.2.2.1; have := HH.out.2.2.2.2.2.2.2.2.1; omega) k what rule on (by have := HH.out.2.2.2.2.2.2.2.2.1; exact ⟨by omega, by omega⟩) HH.out.2.2.2.2.2.1
    have H4 := Lib.hid (And.intro h4 hcw)
    clear h4 hcw hc1 hh1
    go_wp2_with fail
    refine H4.out.1.mono ?_
    intro e w2 h4
    have h5 := enterH_out HH.out.1 (by unfold plI; split <;> omega) h4
    obtain ⟨rfl, h6, h7⟩ := h5
    have H6 := Lib.hid (And.intro h6 h7)
    clear h4 h6 h7
    go_wp2_with fail
    go_ret
    unfold OutX stepX
    simp only
    rw [if_pos HH.out.2.2.2.2.1.symm]
    exact ⟨rfl, H6.out.1, (ChgB.of0 H4.out.2).tr H6.out.2⟩
  · have h4 := leaveX_any b w1 H k x HH.out.1 HH.out.2.2.2.2.2.2.2.2.1 hh1 hbw1
    have H4 := Lib.hid (And.intro h4 hcw)
    clear h4 hcw hc1 hh1
    go_wp2_with fail
    refine H4.out.1.mono ?_
    intro e w2 h4
    have h5 := h4
    obtain ⟨rfl, h6, h7⟩ := h5
    have H6 := Lib.hid (And.intro h6 h7)
    clear h4 h6 h7
    go_wp2_with fail
    go_ret
    unfold OutX stepX
    simp only
    rw [if_neg (by have := HH.out.2.2.2.2.1; omega), if_pos HH.out.2.2.2.2.1.symm]
    exact ⟨rfl, H6.out.1, (ChgB.of0 H4.out.2).tr H6.out.2⟩
  · have h4 := readH_any b w1 H x.s x.l x.rs x.ts hh1 hbw1 (by have := HH.out.2.2.2.2.2.2.2.1; have := HH.out.2.2.2.2.2.2.2.2.1; omega) (by have := HH.out.2.2.2.2.2.2.2.1; have := HH.out.2.2.2.2.2.2.2.2.1; omega) (by have := HH.out.2.2.2.2.2.2.2.1; have := HH.out.2.2.2.2.2.2.2.2.1; omega) (by have := HH.out.2.2.2.2.2.2.1; have := HH.out.2.2.2.2.2.2.2.2.1; omega) k what rule on (by have := HH.out.2.2.2.2.2.2.2.2.1; exact ⟨by omega, by omega⟩) HH.out.2.2.2.2.2.1
    have H4 := Lib.hid (And.intro h4 hcw)
    clear h4 hcw hc1 hh1
    go_wp2_with fail
    refine H4.out.1.mono ?_
    intro e w2 h4
    have h5 := readH_out HH.out.1 h4
    obtain ⟨rfl, h6, h7⟩ := h5
    have H6 := Lib.hid (And.intro h6 h7)
    clear h4 h6 h7
    go_wp2_with fail
    go_ret
    unfold OutX stepX
    simp only
    rw [if_neg (by have := HH.out.2.2.2.2.1; omega), if_neg (by have := HH.out.2.2.2.2.1; omega), if_pos HH.out.2.2.2.2.1.symm]
    exact ⟨rfl, H6.out.1, (ChgB.of0 H4.out.2).tr H6.out.2⟩
  · have h4 := useH_any b w1 H x.s x.l x.rs x.ts hh1 hbw1 (by have := HH.out.2.2.2.2.2.2.2.1; have := HH.out.2.2.2.2.2.2.2.2.1; omega) (by have := HH.out.2.2.2.2.2.2.2.1; have := HH.out.2.2.2.2.2.2.2.2.1; omega) (by have := HH.out.2.2.2.2.2.2.2.1; have := HH.out.2.2.2.2.2.2.2.2.1; omega) (by have := HH.out.2.2.2.2.2.2.1; have := HH.out.2.2.2.2.2.2.2.2.1; omega) k what rule on (by have := HH.out.2.2.2.2.2.2.2.2.1; exact ⟨by omega, by omega⟩) HH.out.2.2.2.2.2.1
    have H4 := Lib.hid (And.intro h4 hcw)
    clear h4 hcw hc1 hh1
    go_wp2_with fail
    refine H4.out.1.mono ?_
    intro e w2 h4
    have h5 := useH_out HH.out.1 h4
    obtain ⟨rfl, h6, h7⟩ := h5
    have H6 := Lib.hid (And.intro h6 h7)
    clear h4 h6 h7
    go_wp2_with fail
    go_ret
    unfold OutX stepX
    simp only
    rw [if_neg (by have := HH.out.2.2.2.2.1; omega), if_neg (by have := HH.out.2.2.2.2.1; omega), if_neg (by have := HH.out.2.2.2.2.1; omega)]
    exact ⟨rfl, H6.out.1, (ChgB.of0 H4.out.2).tr H6.out.2⟩
end Go.Proofs.Ytnajhcoimohcaaa

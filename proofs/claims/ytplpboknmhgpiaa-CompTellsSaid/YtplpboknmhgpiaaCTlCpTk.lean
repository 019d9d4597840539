/-
  tells: of every graph of few numbers what the program tells is what the document tells.
  Conditions: the rows read as data; the graph has at most 600 rows, each of at most 600 numbers.
-/
import Derived.Test.YtplpboknmhgpiaaCTlCpTb
import Derived.Test.YtplpboknmhgpiaaCTlCpLn
import Derived.Test.YtplpboknmhgpiaaCTlCpRq
import Derived.Test.YtplpboknmhgpiaaCTlCpRt
import Derived.Test.YtplpboknmhgpiaaCTlCpAw
import Derived.Test.YtplpboknmhgpiaaCTlCpOpen
import Derived.Test.YtplpboknmhgpiaaCTlPkN
set_option linter.unusedVariables false
set_option linter.unusedSimpArgs false
set_option linter.unnecessarySimpa false
namespace Go.Proofs.Ytplpboknmhgpiaa
open Go.RowKit Go.MapKept Go.Shelf

set_option maxRecDepth 100000 in
set_option maxHeartbeats 16000000 in
theorem tells13_any (w : World) (a : Option Addr) (n c : Nat) (VS : List Is) (hn : n = VS.length) (hc : n ≤ c ∧ c ≤ 9223372036854775807) (hd : IntRows w a VS) (h6 : n ≤ 600) (ht : ∀ p ∈ VS, p.2.2.length ≤ 600) (z1 z2 : Int) (i1 : I64 z1) (i2 : I64 z2) :
    Calls Try.prog 20 #[.slice a n c, .int .i64 z1, .int .i64 z2] w fun e w' => e = .returned (.bool true) ∧ Chg [] w w' := by
  obtain ⟨X, hX⟩ : ∃ X, X = VS.map (·.2.2) := ⟨_, rfl⟩
  have hlent := LentIntRows_any w a n c VS hn (by omega) (fun p hp => by have := ht p hp; omega) hd
  have hnX : X.length = n := by rw [hn, hX, List.length_map]
  rw [← hX] at hlent
  have H := Lib.hid (And.intro hn (And.intro hd (And.intro ht (And.intro hX (And.intro hnX hlent)))))
  clear hn hd ht hX hnX hlent
  go_enter Try.func20, Try.ntmps20
  go_wp2_with fail
  refine H.out.2.2.2.2.2.mono ?_
  rintro e w1 ⟨la, lc, US, rfl, hU, hL, hc1⟩
  rw [H.out.2.2.2.2.1]
  have hun : n = US.length := by have := congrArg List.length hU; rw [List.length_map, H.out.2.2.2.2.1] at this; omega
  have hlc := row_cap hL.row
  rw [← hun] at hlc
  have hum : ∀ p ∈ US, p.2.2.length ≤ 1000000 := fun p hp => by
    have h1 : p.2.2 ∈ X := by rw [← hU]; exact List.mem_map.2 ⟨p, hp, rfl⟩
    rw [H.out.2.2.2.1] at h1
    obtain ⟨q, hq, e⟩ := List.mem_map.1 h1
    have := H.out.2.2.1 q hq
    rw [← e]; omega
  have HL := Lib.hid (And.intro hun (And.intro hL.rows (And.intro hU (And.intro hL (And.intro hum (And.intro hc1 (H.out.2.1.keep hc1.kp)))))))
  clear hun hU hL hum hc1
  have C1 : Hid (Chg [] w1 w1) := Lib.hid (Chg.refl _ _)
  go_wp2_with fail
  refine (parts_any w1 la n lc US HL.out.1 hlc (HL.out.2.1.keep C1.out.kp)).mono ?_
  rintro e w2 ⟨pa, pc, pS, rfl, hO, hE, hq⟩
  rw [HL.out.2.2.1] at hE
  have hpc := hO.cap
  obtain ⟨pn, hm⟩ : ∃ m, m = pS.length := ⟨_, rfl⟩
  rw [← hm] at hpc ⊢
  have C2 : Hid (Chg [] w1 w2) := Lib.hid (C1.out.tr hq)
  have D2_2 : Hid (Chg [] w2 w2) := Lib.hid (Chg.refl _ _)
  have Tp := Lib.hid (And.intro (TabAt.of hO hm hE (few_parts X)) (And.intro hE (And.intro hO.rows hm)))
  clear hO hE hm hq
  go_wp2_with fail
  refine (parts_any w2 la n lc US HL.out.1 hlc (HL.out.2.1.keep C2.out.kp)).mono ?_
  rintro e w3 ⟨qa, qc, qS, rfl, hO, hE, hq⟩
  rw [HL.out.2.2.1] at hE
  have hqc := hO.cap
  obtain ⟨qn, hm⟩ : ∃ m, m = qS.length := ⟨_, rfl⟩
  rw [← hm] at hqc ⊢
  have C3 : Hid (Chg [] w1 w3) := Lib.hid (C2.out.tr hq)
  have D3_3 : Hid (Chg [] w3 w3) := Lib.hid (Chg.refl _ _)
  have D2_3 : Hid (Chg [] w2 w3) := Lib.hid (D2_2.out.tr hq)
  have Tq := Lib.hid (And.intro (TabAt.of hO hm hE (few_parts X)) (And.intro hE (And.intro hO.rows hm)))
  clear hO hE hm hq
  go_wp2_with fail
  refine (compTurn_any w3 la n lc US HL.out.1 hlc (HL.out.2.1.keep C3.out.kp)).mono ?_
  rintro e w4 ⟨ta, tc, tS, rfl, hO, hE, hq⟩
  rw [HL.out.2.2.1] at hE
  have htc := hO.cap
  obtain ⟨tn, hm⟩ : ∃ m, m = tS.length := ⟨_, rfl⟩
  rw [← hm] at htc ⊢
  have C4 : Hid (Chg [] w1 w4) := Lib.hid (C3.out.tr hq)
  have D4_4 : Hid (Chg [] w4 w4) := Lib.hid (Chg.refl _ _)
  have D3_4 : Hid (Chg [] w3 w4) := Lib.hid (D3_3.out.tr hq)
  have D2_4 : Hid (Chg [] w2 w4) := Lib.hid (D2_3.out.tr hq)
  have Tt := Lib.hid (And.intro (TabAt.of hO hm hE (few_turn X)) (And.intro hE (And.intro hO.rows hm)))
  clear hO hE hm hq
  go_wp2_with fail
  refine (compTurn_any w4 la n lc US HL.out.1 hlc (HL.out.2.1.keep C4.out.kp)).mono ?_
  rintro e w5 ⟨ua, uc, uS, rfl, hO, hE, hq⟩
  rw [HL.out.2.2.1] at hE
  have huc := hO.cap
  obtain ⟨un, hm⟩ : ∃ m, m = uS.length := ⟨_, rfl⟩
  rw [← hm] at huc ⊢
  have C5 : Hid (Chg [] w1 w5) := Lib.hid (C4.out.tr hq)
  have D5_5 : Hid (Chg [] w5 w5) := Lib.hid (Chg.refl _ _)
  have D4_5 : Hid (Chg [] w4 w5) := Lib.hid (D4_4.out.tr hq)
  have D3_5 : Hid (Chg [] w3 w5) := Lib.hid (D3_4.out.tr hq)
  have D2_5 : Hid (Chg [] w2 w5) := Lib.hid (D2_4.out.tr hq)
  have Tu := Lib.hid (And.intro (TabAt.of hO hm hE (few_turn X)) (And.intro hE (And.intro hO.rows hm)))
  clear hO hE hm hq
  go_wp2_with fail
  refine (rightC_any w5 la n lc US HL.out.1 (by omega) (HL.out.2.1.keep C5.out.kp)).mono ?_
  rintro e w6 ⟨rfl, hq⟩
  rw [HL.out.2.2.1]
  have C6 : Hid (Chg [] w1 w6) := Lib.hid (C5.out.tr hq)
  have D5_6 : Hid (Chg [] w5 w6) := Lib.hid (D5_5.out.tr hq)
  have D4_6 : Hid (Chg [] w4 w6) := Lib.hid (D4_5.out.tr hq)
  have D3_6 : Hid (Chg [] w3 w6) := Lib.hid (D3_5.out.tr hq)
  have D2_6 : Hid (Chg [] w2 w6) := Lib.hid (D2_5.out.tr hq)
  clear hq
  obtain ⟨vr, hvr⟩ : ∃ z, z = Cp.rightI X := ⟨_, rfl⟩
  rw [← hvr]
  have Kvr := Lib.hid hvr
  clear hvr
  go_wp2_with fail
  refine (rightR_any w6 a n c VS H.out.1 (by omega) (HL.out.2.2.2.2.2.2.keep C6.out.kp)).mono ?_
  rintro e w7 ⟨rfl, hq⟩
  rw [← H.out.2.2.2.1]
  have C7 : Hid (Chg [] w1 w7) := Lib.hid (C6.out.tr hq)
  have D5_7 : Hid (Chg [] w5 w7) := Lib.hid (D5_6.out.tr hq)
  have D4_7 : Hid (Chg [] w4 w7) := Lib.hid (D4_6.out.tr hq)
  have D3_7 : Hid (Chg [] w3 w7) := Lib.hid (D3_6.out.tr hq)
  have D2_7 : Hid (Chg [] w2 w7) := Lib.hid (D2_6.out.tr hq)
  clear hq
  rw [← Kvr.out]
  have e1 : (vr != vr) = false := by simp
  go_wp2_with fail
  refine (leadsC_any w7 la n lc US HL.out.1 hlc (HL.out.2.1.keep C7.out.kp) z1 z2 i2 i1).mono ?_
  rintro e w8 ⟨rfl, hq⟩
  rw [HL.out.2.2.1]
  have C8 : Hid (Chg [] w1 w8) := Lib.hid (C7.out.tr hq)
  have D5_8 : Hid (Chg [] w5 w8) := Lib.hid (D5_7.out.tr hq)
  have D4_8 : Hid (Chg [] w4 w8) := Lib.hid (D4_7.out.tr hq)
  have D3_8 : Hid (Chg [] w3 w8) := Lib.hid (D3_7.out.tr hq)
  have D2_8 : Hid (Chg [] w2 w8) := Lib.hid (D2_7.out.tr hq)
  clear hq
  obtain ⟨vl, hvl⟩ : ∃ z, z = Cp.leadsI X z1 z2 := ⟨_, rfl⟩
  rw [← hvl]
  have Kvl := Lib.hid hvl
  clear hvl
  go_wp2_with fail
  refine (refLeadsB_any w8 a n c VS H.out.1 hc (HL.out.2.2.2.2.2.2.keep C8.out.kp) z1 z2 i1 i2).mono ?_
  rintro e w9 ⟨rfl, hq⟩
  rw [← H.out.2.2.2.1]
  have C9 : Hid (Chg [] w1 w9) := Lib.hid (C8.out.tr hq)
  have D5_9 : Hid (Chg [] w5 w9) := Lib.hid (D5_8.out.tr hq)
  have D4_9 : Hid (Chg [] w4 w9) := Lib.hid (D4_8.out.tr hq)
  have D3_9 : Hid (Chg [] w3 w9) := Lib.hid (D3_8.out.tr hq)
  have D2_9 : Hid (Chg [] w2 w9) := Lib.hid (D2_8.out.tr hq)
  clear hq
  rw [← Kvl.out]
  have e2 : (vl != vl) = false := by simp
  go_wp2_with fail
  refine (part_any w9 la n lc US HL.out.1 hlc (HL.out.2.1.keep C9.out.kp) z1 i1).mono ?_
  rintro e w10 ⟨rfl, hq⟩
  rw [HL.out.2.2.1]
  have C10 : Hid (Chg [] w1 w10) := Lib.hid (C9.out.tr hq)
  have D5_10 : Hid (Chg [] w5 w10) := Lib.hid (D5_9.out.tr hq)
  have D4_10 : Hid (Chg [] w4 w10) := Lib.hid (D4_9.out.tr hq)
  have D3_10 : Hid (Chg [] w3 w10) := Lib.hid (D3_9.out.tr hq)
  have D2_10 : Hid (Chg [] w2 w10) := Lib.hid (D2_9.out.tr hq)
  clear hq
  obtain ⟨vp, hvp⟩ : ∃ z, z = Cp.partI X z1 := ⟨_, rfl⟩
  rw [← hvp]
  have Kvp := Lib.hid hvp
  clear hvp
  go_wp2_with fail
  refine (refPart_any w10 a n c VS H.out.1 hc (HL.out.2.2.2.2.2.2.keep C10.out.kp) z1).mono ?_
  rintro e w11 ⟨rfl, hq⟩
  rw [← H.out.2.2.2.1]
  have C11 : Hid (Chg [] w1 w11) := Lib.hid (C10.out.tr hq)
  have D5_11 : Hid (Chg [] w5 w11) := Lib.hid (D5_10.out.tr hq)
  have D4_11 : Hid (Chg [] w4 w11) := Lib.hid (D4_10.out.tr hq)
  have D3_11 : Hid (Chg [] w3 w11) := Lib.hid (D3_10.out.tr hq)
  have D2_11 : Hid (Chg [] w2 w11) := Lib.hid (D2_10.out.tr hq)
  clear hq
  rw [← Kvp.out]
  have e3 : decide (vp = vp) = true := decide_eq_true rfl
  go_wp2_with fail
  refine (ring_any w11 la n lc US HL.out.1 hlc (HL.out.2.1.keep C11.out.kp) z1 i1).mono ?_
  rintro e w12 ⟨rfl, hq⟩
  rw [HL.out.2.2.1]
  have C12 : Hid (Chg [] w1 w12) := Lib.hid (C11.out.tr hq)
  have D5_12 : Hid (Chg [] w5 w12) := Lib.hid (D5_11.out.tr hq)
  have D4_12 : Hid (Chg [] w4 w12) := Lib.hid (D4_11.out.tr hq)
  have D3_12 : Hid (Chg [] w3 w12) := Lib.hid (D3_11.out.tr hq)
  have D2_12 : Hid (Chg [] w2 w12) := Lib.hid (D2_11.out.tr hq)
  clear hq
  obtain ⟨vg, hvg⟩ : ∃ z, z = Cp.ringI X z1 := ⟨_, rfl⟩
  rw [← hvg]
  have Kvg := Lib.hid hvg
  clear hvg
  go_wp2_with fail
  refine (refRing_any w12 a n c VS H.out.1 hc (HL.out.2.2.2.2.2.2.keep C12.out.kp) z1).mono ?_
  rintro e w13 ⟨rfl, hq⟩
  rw [← H.out.2.2.2.1]
  have C13 : Hid (Chg [] w1 w13) := Lib.hid (C12.out.tr hq)
  have D5_13 : Hid (Chg [] w5 w13) := Lib.hid (D5_12.out.tr hq)
  have D4_13 : Hid (Chg [] w4 w13) := Lib.hid (D4_12.out.tr hq)
  have D3_13 : Hid (Chg [] w3 w13) := Lib.hid (D3_12.out.tr hq)
  have D2_13 : Hid (Chg [] w2 w13) := Lib.hid (D2_12.out.tr hq)
  clear hq
  rw [← Kvg.out]
  have e4 : (vg != vg) = false := by simp
  go_wp2_with fail
  refine (refParts_any w13 a n c VS H.out.1 hc (HL.out.2.2.2.2.2.2.keep C13.out.kp)).mono ?_
  rintro e w14 ⟨rpa, rpc, rpS, rfl, hO, hE, hq⟩
  rw [← H.out.2.2.2.1] at hE
  have hrpc := hO.cap
  obtain ⟨rpn, hm⟩ : ∃ m, m = rpS.length := ⟨_, rfl⟩
  rw [← hm] at hrpc ⊢
  have C14 : Hid (Chg [] w1 w14) := Lib.hid (C13.out.tr hq)
  have D5_14 : Hid (Chg [] w5 w14) := Lib.hid (D5_13.out.tr hq)
  have D4_14 : Hid (Chg [] w4 w14) := Lib.hid (D4_13.out.tr hq)
  have D3_14 : Hid (Chg [] w3 w14) := Lib.hid (D3_13.out.tr hq)
  have D2_14 : Hid (Chg [] w2 w14) := Lib.hid (D2_13.out.tr hq)
  have Trp := Lib.hid (And.intro (TabAt.of hO hm hE (few_parts X)) (And.intro hE (And.intro hO.rows hm)))
  clear hO hE hm hq
  go_wp2_with fail
  refine (sameIntRows_any w14 pa rpa pn pc rpn rpc pS rpS Tp.out.2.2.2 Trp.out.2.2.2 (by omega) (by omega) (Tp.out.2.2.1.keep D2_14.out.kp) Trp.out.2.2.1).mono ?_
  rintro e w15 ⟨rfl, hq⟩
  rw [Tp.out.2.1, Trp.out.2.1, decide_eq_true rfl]
  have C15 : Hid (Chg [] w1 w15) := Lib.hid (C14.out.tr hq)
  have D5_15 : Hid (Chg [] w5 w15) := Lib.hid (D5_14.out.tr hq)
  have D4_15 : Hid (Chg [] w4 w15) := Lib.hid (D4_14.out.tr hq)
  have D3_15 : Hid (Chg [] w3 w15) := Lib.hid (D3_14.out.tr hq)
  have D2_15 : Hid (Chg [] w2 w15) := Lib.hid (D2_14.out.tr hq)
  clear hq
  go_wp2_with fail
  refine (refTurn_any w15 a n c VS H.out.1 hc (HL.out.2.2.2.2.2.2.keep C15.out.kp)).mono ?_
  rintro e w16 ⟨rta, rtc, rtS, rfl, hO, hE, hq⟩
  rw [← H.out.2.2.2.1] at hE
  have hrtc := hO.cap
  obtain ⟨rtn, hm⟩ : ∃ m, m = rtS.length := ⟨_, rfl⟩
  rw [← hm] at hrtc ⊢
  have C16 : Hid (Chg [] w1 w16) := Lib.hid (C15.out.tr hq)
  have D5_16 : Hid (Chg [] w5 w16) := Lib.hid (D5_15.out.tr hq)
  have D4_16 : Hid (Chg [] w4 w16) := Lib.hid (D4_15.out.tr hq)
  have D3_16 : Hid (Chg [] w3 w16) := Lib.hid (D3_15.out.tr hq)
  have D2_16 : Hid (Chg [] w2 w16) := Lib.hid (D2_15.out.tr hq)
  have Trt := Lib.hid (And.intro (TabAt.of hO hm hE (few_turn X)) (And.intro hE (And.intro hO.rows hm)))
  clear hO hE hm hq
  go_wp2_with fail
  refine (sameIntRows_any w16 ta rta tn tc rtn rtc tS rtS Tt.out.2.2.2 Trt.out.2.2.2 (by omega) (by omega) (Tt.out.2.2.1.keep D4_16.out.kp) Trt.out.2.2.1).mono ?_
  rintro e w17 ⟨rfl, hq⟩
  rw [Tt.out.2.1, Trt.out.2.1, decide_eq_true rfl]
  have C17 : Hid (Chg [] w1 w17) := Lib.hid (C16.out.tr hq)
  have D5_17 : Hid (Chg [] w5 w17) := Lib.hid (D5_16.out.tr hq)
  have D4_17 : Hid (Chg [] w4 w17) := Lib.hid (D4_16.out.tr hq)
  have D3_17 : Hid (Chg [] w3 w17) := Lib.hid (D3_16.out.tr hq)
  have D2_17 : Hid (Chg [] w2 w17) := Lib.hid (D2_16.out.tr hq)
  clear hq
  go_wp2_with fail
  refine (KeptIntRows_any w17 w.heap.size la a n lc n c US VS HL.out.1 H.out.1 (by omega) HL.out.2.2.2.2.1 (HL.out.2.2.2.1.chg0 C17.out) (HL.out.2.2.2.2.2.2.keep C17.out.kp) (by rw [HL.out.2.2.1, H.out.2.2.2.1])).mono ?_
  rintro e w18 ⟨rfl, hq⟩
  have C18 : Hid (Chg [] w1 w18) := Lib.hid (C17.out.tr hq)
  have D5_18 : Hid (Chg [] w5 w18) := Lib.hid (D5_17.out.tr hq)
  have D4_18 : Hid (Chg [] w4 w18) := Lib.hid (D4_17.out.tr hq)
  have D3_18 : Hid (Chg [] w3 w18) := Lib.hid (D3_17.out.tr hq)
  have D2_18 : Hid (Chg [] w2 w18) := Lib.hid (D2_17.out.tr hq)
  clear hq
  go_wp2_with fail
  obtain ⟨wb, hwb⟩ : ∃ z, z = w18.alloc (.cells #[.slice pa pn pc, .slice qa qn qc, .slice ta tn tc, .slice ua un uc] 22) := ⟨_, rfl⟩
  have hq : Chg [] w18 wb := by rw [hwb]; exact (Chg.refl [] _).alloc _
  have hbb : wb.heap[w18.heap.size]? = some (.cells #[.slice pa pn pc, .slice qa qn qc, .slice ta tn tc, .slice ua un uc] 22 (0, 0)) := by rw [hwb]; exact heap_alloc_same _ _
  rw [← hwb]
  have s2 := C2.out.size
  have s3 := D2_3.out.size
  have s4 := D3_4.out.size
  have s5 := D4_5.out.size
  have s6 := D5_18.out.size
  have hap := apartTabs_any wb w1.heap.size w2.heap.size w3.heap.size w4.heap.size w5.heap.size w18.heap.size 4 _ _ ⟨s2, s3, s4, s5, s6⟩ ⟨Nat.le_refl _, by decide⟩ hbb (Tp.out.1.chg0 (D2_18.out.tr hq)) (Tq.out.1.chg0 (D3_18.out.tr hq)) (Tt.out.1.chg0 (D4_18.out.tr hq)) (Tu.out.1.chg0 (D5_18.out.tr hq))
  have HA := Lib.hid (And.intro hap (C18.out.tr hq))
  clear hap hq hbb hwb s2 s3 s4 s5 s6
  refine HA.out.1.mono ?_
  rintro e w19 ⟨rfl, T, hT, hq⟩
  have C19 : Hid (Chg [] w1 w19) := Lib.hid (HA.out.2.trans hq (fun x hx => .inr (hT x hx)))
  clear hq hT
  go_wp2_with fail
  refine (KeptIntRows_any w19 w.heap.size la a n lc n c US VS HL.out.1 H.out.1 (by omega) HL.out.2.2.2.2.1 (HL.out.2.2.2.1.chg0 C19.out) (HL.out.2.2.2.2.2.2.keep C19.out.kp) (by rw [HL.out.2.2.1, H.out.2.2.2.1])).mono ?_
  rintro e w20 ⟨rfl, hq⟩
  have C20 : Hid (Chg [] w1 w20) := Lib.hid (C19.out.tr hq)
  clear hq
  go_wp2_with fail
  go_ret
  exact ⟨rfl, HL.out.2.2.2.2.2.1.tr C20.out⟩
end Go.Proofs.Ytplpboknmhgpiaa
set_option linter.unusedVariables false
set_option linter.unusedSimpArgs false
set_option linter.unnecessarySimpa false
namespace Go.Proofs.Ytplpboknmhgpiaa
open Go.RowKit Go.MapKept Go.Shelf

theorem pick_i64 (z : Int) {n : Nat} (h : n ≤ 1000000) : I64 (if n = 0 then (0 : Int) else z % (n : Int)) := by
  unfold I64
  split
  · omega
  · have h1 := Int.emod_nonneg z (b := (n : Int)) (by omega)
    have h2 := Int.emod_lt_of_pos z (b := (n : Int)) (by omega)
    omega

set_option maxRecDepth 100000 in
set_option maxHeartbeats 16000000 in
theorem compTells_any (w : World) (a : Option Addr) (n c : Nat) (VS : List Is) (hn : n = VS.length) (hc : n ≤ c) (hm : c ≤ 9223372036854775807) (hd : IntRows w a VS) (hw : ∀ p ∈ VS, ∀ z ∈ p.2.2, I64 z) (hb : n ≤ 17592186044416) (ht : ∀ p ∈ VS, p.2.2.length ≤ 17592186044416) (z1 z2 : Int) (i1 : I64 z1) (i2 : I64 z2) :
    Calls Try.prog 6 #[.slice a n c, .int .i64 z1, .int .i64 z2] w fun e w' => e = .returned (.bool true) ∧ Chg [] w w' := by
  obtain ⟨X, hX⟩ : ∃ X, X = VS.map (·.2.2) := ⟨_, rfl⟩
  have hnX : n = X.length := by rw [hn, hX, List.length_map]
  have H := Lib.hid (And.intro hn (And.intro hd (And.intro hw (And.intro ht (And.intro hX hnX)))))
  clear hn hd hw ht hX hnX
  go_enter Try.func6, Try.ntmps6
  go_wp2_with fail
  refine (great_any w a n c VS H.out.1 hb H.out.2.2.2.1 H.out.2.1).mono ?_
  rintro e w1 ⟨rfl, hq⟩
  rw [← H.out.2.2.2.2.1]
  obtain ⟨g, hg⟩ : ∃ g, g = greatI X := ⟨_, rfl⟩
  rw [← hg]
  have H1 := Lib.hid (And.intro hg hq)
  clear hg hq
  cases g with
  | true =>
    go_wp2_with fail
    refine (awake13_any w1).mono ?_
    rintro e w2 ⟨rfl, hq⟩
    have H2 := Lib.hid (H1.out.2.tr hq)
    clear hq
    go_wp2_with fail
    go_ret
    exact ⟨rfl, H2.out⟩
  | false =>
    have hn600 : n ≤ 600 := by have := (great_small H1.out.1.symm).1; have := H.out.2.2.2.2.2; omega
    have hr600 : ∀ p ∈ VS, p.2.2.length ≤ 600 := fun p hp => (great_small H1.out.1.symm).2 _ (by rw [H.out.2.2.2.2.1]; exact List.mem_map.2 ⟨p, hp, rfl⟩)
    have HR := Lib.hid hr600
    clear hr600
    go_wp2_with fail
    refine (tells13_any w1 a n c VS H.out.1 ⟨hc, hm⟩ (H.out.2.1.keep H1.out.2.kp) hn600 HR.out z1 z2 i1 i2).mono ?_
    rintro e w2 ⟨rfl, hq⟩
    have H2 := Lib.hid (H1.out.2.tr hq)
    clear hq
    go_wp2_with fail
    refine (pickKn_any z1 n w2 (by omega) i1).mono ?_
    rintro e w3 ⟨rfl, hq⟩
    have hp1 := pick_i64 z1 (n := n) (by omega)
    obtain ⟨p1, e1⟩ : ∃ z, z = (if n = 0 then (0 : Int) else z1 % (n : Int)) := ⟨_, rfl⟩
    rw [← e1] at hp1 ⊢
    have H3 := Lib.hid (And.intro (H2.out.tr hq) hp1)
    clear hq hp1 e1
    go_wp2_with fail
    refine (pickKn_any z2 n w3 (by omega) i2).mono ?_
    rintro e w4 ⟨rfl, hq⟩
    have hp2 := pick_i64 z2 (n := n) (by omega)
    obtain ⟨p2, e2⟩ : ∃ z, z = (if n = 0 then (0 : Int) else z2 % (n : Int)) := ⟨_, rfl⟩
    rw [← e2] at hp2 ⊢
    have H4 := Lib.hid (And.intro (H3.out.1.tr hq) hp2)
    clear hq hp2 e2
    go_wp2_with fail
    refine (tells13_any w4 a n c VS H.out.1 ⟨hc, hm⟩ (H.out.2.1.keep H4.out.1.kp) hn600 HR.out p1 p2 H3.out.2 H4.out.2).mono ?_
    rintro e w5 ⟨rfl, hq⟩
    have H5 := Lib.hid (H4.out.1.tr hq)
    clear hq
    go_wp2_with fail
    refine (awake13_any w5).mono ?_
    rintro e w6 ⟨rfl, hq⟩
    have H6 := Lib.hid (H5.out.tr hq)
    clear hq
    go_wp2_with fail
    go_ret
    exact ⟨rfl, H6.out⟩
end Go.Proofs.Ytplpboknmhgpiaa

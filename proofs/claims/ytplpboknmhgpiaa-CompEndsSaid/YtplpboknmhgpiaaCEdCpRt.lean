/-
  A graph turned round, by the document.
  Conditions: the rows read as data.
-/
import Derived.Test.YtplpboknmhgpiaaCEdCpTu
import Derived.Test.YtplpboknmhgpiaaCEdCpRg
set_option linter.unusedVariables false
set_option linter.unusedSimpArgs false
set_option linter.unnecessarySimpa false
namespace Go.Proofs.Ytplpboknmhgpiaa
open Go.RowKit Go.MapKept Go.Shelf

structure TurnO (w : World) (b n : Nat) (frm : Nat → List Int) (FS : List Is) (W : World) : Prop where
  chg : Chg [] w W
  base : w.heap.size = b
  own : OwnIs b W (some ⟨b, 0, none⟩) n FS
  frm : FS.map (·.2.2) = (List.range n).map frm
section
variable {w W W' : World} {b n : Nat} {frm : Nat → List Int} {FS : List Is}
theorem TurnO.len (h : TurnO w b n frm FS W) : FS.length = n := by
  have := congrArg List.length h.frm
  simpa using this
theorem TurnO.chg0 (h : TurnO w b n frm FS W) (hc : Chg [] W W') : TurnO w b n frm FS W' := ⟨h.chg.tr hc, h.base, h.own.chg0 hc, h.frm⟩
theorem TurnO.putF (h : TurnO w b n frm FS W) {q : Nat} (hq : q < FS.length) {p' : Is} {W1 : World} (hg : Chg (FS[q].own.toList) W W1) (hp : FreshInts b W1 p'.1 p'.2.1 p'.2.2) (ho : p'.own = FS[q].own ∨ ∃ k, p'.own = some k ∧ W.heap.size ≤ k) :
    TurnO w b n (Cp.upd frm q p'.2.2) (FS.set q p') (W1.setCell ⟨b, q, none⟩ p'.cell) := by
  obtain ⟨g, e, -, -, -, -, h6, h7⟩ := h.own.put hq hg hp ho
  obtain rfl : b = g := by simpa using e
  refine ⟨?_, h.base, h6, ?_⟩
  · refine (h.chg.trans hg (fun j hj => .inr ?_)).trans h7 (fun j hj => .inr (by rw [List.mem_singleton.1 hj, h.base]; omega))
    have := (row_lt (h.own.each _ (List.getElem_mem hq)) (k := j) (by simpa using hj)).1
    rw [h.base]; omega
  · rw [List.map_set, h.frm, Cp.set_range]
end
theorem turnO_start (w : World) (b n : Nat) (hb : w.heap.size = b) (hn : n ≤ 64) : TurnO w b n (turnF []) (List.replicate n (none, 0, [])) (w.alloc (rowN n)) := by
  have h0 : (w.alloc (rowN n)).heap[b]? = some (rowN n) := by rw [← hb]; exact heap_alloc_same _ _
  refine ⟨(Chg.refl _ _).alloc _, hb, ⟨?_, fun p hp => ?_, ?_⟩, ?_⟩
  · rw [List.length_replicate, List.map_replicate]
    exact rowN_own h0 (Nat.le_refl _) (by simp only [maxLen]; omega)
  · rw [List.eq_of_mem_replicate hp]
    exact World.ownsRow_nil _ _ _ _
  · refine List.Pairwise.imp_of_mem (R := fun _ _ => True) (fun {p q} hp hq _ k hk => ?_) (List.pairwise_iff_getElem.2 (fun _ _ _ _ _ => trivial))
    rw [List.eq_of_mem_replicate hp] at hk
    cases hk
  · rw [List.map_replicate, show (List.range n).map (turnF []) = (List.range n).map (fun _ => ([] : List Int)) from List.map_congr_left (fun p _ => rfl), List.map_const', List.length_range]

set_option maxRecDepth 100000 in
set_option maxHeartbeats 16000000 in
theorem refTurn_any (w : World) (ga : Option Addr) (n gc : Nat) (VG : List Is) (hn : n = VG.length) (hgc : n ≤ gc ∧ gc ≤ 9223372036854775807) (hx : IntRows w ga VG) :
    Calls Try.prog 39 #[.slice ga n gc] w (TabP w (Cp.turnI (VG.map (·.2.2)))) := by
  obtain ⟨X, hX⟩ : ∃ X, X = VG.map (·.2.2) := ⟨_, rfl⟩
  rw [← hX]
  obtain ⟨r1, hr1⟩ : ∃ r1, r1 = Cp.rightI X := ⟨_, rfl⟩
  have hR := rightR_any w ga n gc VG hn (by omega) hx
  rw [← hX, ← hr1] at hR
  have hnX : n = X.length := by rw [hn, hX, List.length_map]
  have H := Lib.hid (And.intro hn (And.intro hx (And.intro hX (And.intro hr1 (And.intro hR hnX)))))
  clear hn hx hX hr1 hR hnX
  go_enter Try.func39, Try.ntmps39
  go_wp2_with fail
  refine H.out.2.2.2.2.1.mono ?_
  rintro e w1 ⟨rfl, hc1⟩
  have H1 := Lib.hid hc1
  clear hc1
  cases r1 with
  | false =>
    go_wp2_with fail
    go_ret
    exact ⟨none, 0, [], rfl, OwnIs.nil _ _, by unfold Cp.turnI; rw [← H.out.2.2.2.1]; rfl, H1.out⟩
  | true =>
    have hr := H.out.2.2.2.1.symm
    have hRG := Cp.right_RG hr
    obtain ⟨G, hG⟩ : ∃ G, G = Cp.toG X := ⟨_, rfl⟩
    have hnG : n = G.length := by rw [hG, Cp.toG_len]; exact H.out.2.2.2.2.2
    have hVG : VG.map (·.2.2) = Cp.intsG G := by rw [← H.out.2.2.1, hG, Cp.ints_toG hr]
    rw [← hG] at hRG
    have hn64 : n ≤ 64 := by rw [hnG]; exact hRG.few
    obtain ⟨b, hb⟩ : ∃ b, b = w1.heap.size := ⟨_, rfl⟩
    have hmk2 := fun W => run_nils n (by omega) W
    have HG := Lib.hid (And.intro hr (And.intro hRG (And.intro hG (And.intro hnG hVG))))
    have hO := turnO_start w1 b n hb.symm hn64
    obtain ⟨wf, ef⟩ : ∃ wf, wf = w1.alloc (rowN n) := ⟨_, rfl⟩
    rw [← ef] at hO
    have HO := Lib.hid (And.intro hO hb)
    clear hr hRG hG hnG hVG hO
    go_wp2_with fail
    rw [← ef, ← hb]
    clear ef hb hmk2
    go_loopg [4] n (fun d iv wr => ∃ i : Nat, d = n - i ∧ i ≤ n ∧ iv = .int .i64 i ∧ Hid (∃ FS, TurnO w1 b n (turnF (Cp.edgesTo G i 0)) FS wr))
    case atStart => exact ⟨0, rfl, Nat.zero_le _, rfl, Lib.hid ⟨_, by have := HO.out.1; simpa [Cp.edgesTo] using this⟩⟩
    case round =>
      obtain ⟨i, rfl, hi, rfl, hin⟩ := hrel
      obtain ⟨wq, rfl⟩ : ∃ wz, wz = wr := ⟨_, rfl⟩
      by_cases hlt : i < n
      · obtain ⟨b1, o1, ra, rc, rfl, k1, k2, k3⟩ := graph_row HG.out.2.2.2.2 H.out.2.1 (c := i) (by rw [← HG.out.2.2.2.1]; exact hlt)
        obtain ⟨q, hq⟩ : ∃ q, q = (Cp.row G i).length := ⟨_, rfl⟩
        rw [← hq] at k1 k3
        have HA := Lib.hid (And.intro k1 (And.intro k2 hq))
        clear k1 k2 hq
        go_wp2_with fail
        go_loopg [5] q (fun d cv wr => ∃ c : Nat, d = q - c ∧ c ≤ q ∧ cv = .int .i64 c ∧ Hid (∃ FS, TurnO w1 b n (turnF (Cp.edgesTo G i c)) FS wr))
        case atStart => exact ⟨0, rfl, Nat.zero_le _, rfl, hin⟩
        case round =>
          obtain ⟨c, rfl, hc, rfl, hin2⟩ := hrel
          obtain ⟨ws, rfl⟩ : ∃ wz, wz = wr := ⟨_, rfl⟩
          obtain ⟨FS, hI⟩ := hin2.out
          have k1 := (H1.out.tr hI.chg).kp.2 _ _ HA.out.1
          by_cases hlt2 : c < q
          · have hcr : c < (Cp.row G i).length := by rw [← HA.out.2.2]; exact hlt2
            obtain ⟨bz, oz, rfl, hz⟩ := (HA.out.2.1.keep (H1.out.tr hI.chg).kp) c (by rw [natI_len]; exact hcr)
            obtain ⟨xb, hxb⟩ : ∃ y, y = (Cp.row G i)[c] := ⟨_, rfl⟩
            have hz' : ws.cell? ⟨bz, oz + c, none⟩ = some (.int .i64 (xb : Nat)) := by rw [hz]; simp [natI, hxb]
            have e3 : xb < n := by rw [HG.out.2.2.2.1, hxb]; exact HG.out.2.1.lt i _ (List.getElem_mem hcr)
            have hsucc : Cp.edgesTo G i (c + 1) = Cp.edgesTo G i c ++ [(i, xb)] := by rw [Cp.edgesTo_succ hcr, ← hxb]
            obtain ⟨rest, hrest⟩ := Cp.edgesTo_pre (G := G) (i := i) (j := c) (by rw [← HG.out.2.2.2.1]; omega)
            have hqF : xb < FS.length := by rw [hI.len]; exact e3
            obtain ⟨pq, hpqe⟩ : ∃ pq, pq = FS[xb] := ⟨_, rfl⟩
            have h5p := hI.own.each _ (List.getElem_mem hqF)
            obtain ⟨g9, eg, -, h5c⟩ := hI.own.at hqF
            obtain rfl : b = g9 := by simpa using eg
            rw [← hpqe] at h5p h5c
            have h5n3 : b ∉ pq.own.toList := fun hm => by
              have hm2 := Option.mem_toList.1 hm
              obtain ⟨cur, hcur⟩ := (row_beyond hI.own.row (j := b) rfl).2.2
              exact ownsRow_ne h5p hcur (by decide) hm2
            have hlow : ∀ k ∈ pq.own.toList, w.heap.size ≤ k := fun k hk => by
              have := (row_lt h5p (Option.mem_toList.1 hk)).1
              have := H1.out.size
              have := HO.out.2
              omega
            have hzs : pq.2.2 = turnF (Cp.edgesTo G i c) xb := by
              have h1 := congrArg (fun l => l[xb]?) hI.frm
              simp only [List.getElem?_map, List.getElem?_eq_getElem hqF, List.getElem?_range e3, Option.map_some, Option.some.injEq] at h1
              rw [hpqe, h1]
            have h5l : pq.2.2.length ≤ 100000 := by
              have := turnF_len HG.out.2.1 hrest xb
              rw [hzs]; omega
            have h5B : b ≤ ws.heap.size := by have := hI.chg.size; have := hI.base; omega
            have h1n : b1 ∉ pq.own.toList := fun hm => by
              have h1 := hlow _ hm
              have h2 := World.block_lt_of_cell? _ _ HA.out.1
              have : b1 < w.heap.size := h2
              omega
            have hz0 := HA.out.2.1 c (by rw [natI_len]; exact hcr)
            have h2n : bz ∉ pq.own.toList := fun hm => by
              obtain ⟨b9, o9, e9, h9⟩ := hz0
              obtain ⟨rfl, rfl⟩ : bz = b9 ∧ oz = o9 := by simpa using e9
              have h1 := hlow _ hm
              have : bz < w.heap.size := World.block_lt_of_cell? _ _ h9
              omega
            have H5 := Lib.hid (And.intro hI (And.intro h5p (And.intro h5n3 (And.intro h5c (And.intro h5l (And.intro h5B (And.intro hpqe (And.intro hzs (And.intro hsucc (And.intro k1 (And.intro hz' (And.intro h1n h2n))))))))))))
            clear hI h5p h5n3 h5c h5l h5B hpqe hzs eg hsucc hrest hxb hz h1n h2n hz0 hlow
            go_wp2_with fail
            clear k1 hz'
            refine plain_region_any (by kernel_rfl) ?_
            refine wpAny_mix (by kernel_rfl) [27, 28, 29, 30, 31, 32, 33, 34, 35, 36, 37, 38, 39, 40, 41, 42, 43, 44, 45, 46, 47, 48] (by kernel_rfl) 19 20 (by decide) (by decide) (fun rI rV => match rI with | 0 => rV = .slice (some ⟨b, 0, none⟩) n n | 1 => rV = .slice (some ⟨b1, o1, none⟩) n gc | 2 => rV = .int .i64 i | 3 => rV = .pointer (some ⟨b1, o1 + i, none⟩) | 4 => rV = .slice (some ⟨bz, oz, none⟩) q rc | 5 => rV = .int .i64 c | 6 => rV = .pointer (some ⟨bz, oz + c, none⟩) | 7 => rV = .int .i64 xb | 8 => rV = .slice (some ⟨b, 0, none⟩) n n | 9 => rV = .slice (some ⟨b1, o1, none⟩) n gc | 10 => rV = .int .i64 i | 11 => rV = .pointer (some ⟨b1, o1 + i, none⟩) | 12 => rV = .slice (some ⟨bz, oz, none⟩) q rc | 13 => rV = .int .i64 c | 14 => rV = .pointer (some ⟨bz, oz + c, none⟩) | 15 => rV = .int .i64 xb | 16 => rV = .pointer (some ⟨b, xb, none⟩) | 17 => rV = pq.cell | 18 => rV = .int .i64 i | 19 => True | 20 => True | 21 => rV = .pointer (some ⟨b, xb, none⟩) | _ => True) (MixF b ws pq i) ?h0M12 ?hstepM12 ?hlastM12
            case h0M12 =>
              intro v u
              exact MixF.start _ _ _ _ _ _
            case hstepM12 =>
              intro rI rH us W l1 l2 hJ hl1 hl2 hw1 hdep K hK
              have hiN : rI < 22 := rH
              simp only [actU, Act.put, List.setIfInBounds_toArray, List.set_cons_succ, List.set_cons_zero, Nat.reduceAdd] at hK ⊢
              have hcq := hJ.2.1
              have y3 := hcq.cell H5.out.2.2.2.1 H5.out.2.2.1
              have y1 := hcq.cell H5.out.2.2.2.2.2.2.2.2.2.1 H5.out.2.2.2.2.2.2.2.2.2.2.2.1
              have y2 := hcq.cell H5.out.2.2.2.2.2.2.2.2.2.2.1 H5.out.2.2.2.2.2.2.2.2.2.2.2.2
              rcases (show rI = 0 ∨ rI = 1 ∨ rI = 2 ∨ rI = 3 ∨ rI = 4 ∨ rI = 5 ∨ rI = 6 ∨ rI = 7 ∨ rI = 8 ∨ rI = 9 ∨ rI = 10 ∨ rI = 11 ∨ rI = 12 ∨ rI = 13 ∨ rI = 14 ∨ rI = 15 ∨ rI = 16 ∨ rI = 17 ∨ rI = 18 ∨ rI = 19 ∨ rI = 20 ∨ rI = 21 by omega) with rfl | rfl | rfl | rfl | rfl | rfl | rfl | rfl | rfl | rfl | rfl | rfl | rfl | rfl | rfl | rfl | rfl | rfl | rfl | rfl | rfl | rfl
              · simp only [List.getD_cons_succ, List.getD_cons_zero, List.setIfInBounds_toArray, List.set_cons_succ, List.set_cons_zero] at hK ⊢
                refine wpOp_at rfl rfl ?_
                go_simp
                exact hK _ _ _ rfl hJ rfl
              · simp only [List.getD_cons_succ, List.getD_cons_zero, List.setIfInBounds_toArray, List.set_cons_succ, List.set_cons_zero] at hK ⊢
                refine wpOp_at rfl rfl ?_
                go_simp
                exact hK _ _ _ rfl hJ rfl
              · simp only [List.getD_cons_succ, List.getD_cons_zero, List.setIfInBounds_toArray, List.set_cons_succ, List.set_cons_zero] at hK ⊢
                refine wpOp_at rfl rfl ?_
                go_simp
                exact hK _ _ _ rfl hJ rfl
              · have l1 := hdep 1 (by kernel_rfl)
                replace l1 : us 1 = .slice (some ⟨b1, o1, none⟩) n gc := l1
                have l2 := hdep 2 (by kernel_rfl)
                replace l2 : us 2 = .int .i64 i := l2
                simp only [List.getD_cons_succ, List.getD_cons_zero, List.setIfInBounds_toArray, List.set_cons_succ, List.set_cons_zero, l1, l2] at hK ⊢
                refine wpOp_at rfl rfl ?_
                go_simp
                exact hK _ _ _ rfl hJ rfl
              · have l3 := hdep 3 (by kernel_rfl)
                replace l3 : us 3 = .pointer (some ⟨b1, o1 + i, none⟩) := l3
                simp only [List.getD_cons_succ, List.getD_cons_zero, List.setIfInBounds_toArray, List.set_cons_succ, List.set_cons_zero, l3] at hK ⊢
                refine wpOp_at rfl rfl ?_
                go_simp
                exact hK _ _ _ rfl hJ rfl
              · simp only [List.getD_cons_succ, List.getD_cons_zero, List.setIfInBounds_toArray, List.set_cons_succ, List.set_cons_zero] at hK ⊢
                refine wpOp_at rfl rfl ?_
                go_simp
                exact hK _ _ _ rfl hJ rfl
              · have l4 := hdep 4 (by kernel_rfl)
                replace l4 : us 4 = .slice (some ⟨bz, oz, none⟩) q rc := l4
                have l5 := hdep 5 (by kernel_rfl)
                replace l5 : us 5 = .int .i64 c := l5
                simp only [List.getD_cons_succ, List.getD_cons_zero, List.setIfInBounds_toArray, List.set_cons_succ, List.set_cons_zero, l4, l5] at hK ⊢
                refine wpOp_at rfl rfl ?_
                go_simp
                exact hK _ _ _ rfl hJ rfl
              · have l6 := hdep 6 (by kernel_rfl)
                replace l6 : us 6 = .pointer (some ⟨bz, oz + c, none⟩) := l6
                simp only [List.getD_cons_succ, List.getD_cons_zero, List.setIfInBounds_toArray, List.set_cons_succ, List.set_cons_zero, l6] at hK ⊢
                refine wpOp_at rfl rfl ?_
                go_simp
                exact hK _ _ _ rfl hJ rfl
              · simp only [List.getD_cons_succ, List.getD_cons_zero, List.setIfInBounds_toArray, List.set_cons_succ, List.set_cons_zero] at hK ⊢
                refine wpOp_at rfl rfl ?_
                go_simp
                exact hK _ _ _ rfl hJ rfl
              · simp only [List.getD_cons_succ, List.getD_cons_zero, List.setIfInBounds_toArray, List.set_cons_succ, List.set_cons_zero] at hK ⊢
                refine wpOp_at rfl rfl ?_
                go_simp
                exact hK _ _ _ rfl hJ rfl
              · simp only [List.getD_cons_succ, List.getD_cons_zero, List.setIfInBounds_toArray, List.set_cons_succ, List.set_cons_zero] at hK ⊢
                refine wpOp_at rfl rfl ?_
                go_simp
                exact hK _ _ _ rfl hJ rfl
              · have l9 := hdep 9 (by kernel_rfl)
                replace l9 : us 9 = .slice (some ⟨b1, o1, none⟩) n gc := l9
                have l10 := hdep 10 (by kernel_rfl)
                replace l10 : us 10 = .int .i64 i := l10
                simp only [List.getD_cons_succ, List.getD_cons_zero, List.setIfInBounds_toArray, List.set_cons_succ, List.set_cons_zero, l9, l10] at hK ⊢
                refine wpOp_at rfl rfl ?_
                go_simp
                exact hK _ _ _ rfl hJ rfl
              · have l11 := hdep 11 (by kernel_rfl)
                replace l11 : us 11 = .pointer (some ⟨b1, o1 + i, none⟩) := l11
                simp only [List.getD_cons_succ, List.getD_cons_zero, List.setIfInBounds_toArray, List.set_cons_succ, List.set_cons_zero, l11] at hK ⊢
                refine wpOp_at rfl rfl ?_
                go_simp
                exact hK _ _ _ rfl hJ rfl
              · simp only [List.getD_cons_succ, List.getD_cons_zero, List.setIfInBounds_toArray, List.set_cons_succ, List.set_cons_zero] at hK ⊢
                refine wpOp_at rfl rfl ?_
                go_simp
                exact hK _ _ _ rfl hJ rfl
              · have l12 := hdep 12 (by kernel_rfl)
                replace l12 : us 12 = .slice (some ⟨bz, oz, none⟩) q rc := l12
                have l13 := hdep 13 (by kernel_rfl)
                replace l13 : us 13 = .int .i64 c := l13
                simp only [List.getD_cons_succ, List.getD_cons_zero, List.setIfInBounds_toArray, List.set_cons_succ, List.set_cons_zero, l12, l13] at hK ⊢
                refine wpOp_at rfl rfl ?_
                go_simp
                exact hK _ _ _ rfl hJ rfl
              · have l14 := hdep 14 (by kernel_rfl)
                replace l14 : us 14 = .pointer (some ⟨bz, oz + c, none⟩) := l14
                simp only [List.getD_cons_succ, List.getD_cons_zero, List.setIfInBounds_toArray, List.set_cons_succ, List.set_cons_zero, l14] at hK ⊢
                refine wpOp_at rfl rfl ?_
                go_simp
                exact hK _ _ _ rfl hJ rfl
              · have l8 := hdep 8 (by kernel_rfl)
                replace l8 : us 8 = .slice (some ⟨b, 0, none⟩) n n := l8
                have l15 := hdep 15 (by kernel_rfl)
                replace l15 : us 15 = .int .i64 xb := l15
                simp only [List.getD_cons_succ, List.getD_cons_zero, List.setIfInBounds_toArray, List.set_cons_succ, List.set_cons_zero, l8, l15] at hK ⊢
                refine wpOp_at rfl rfl ?_
                go_simp
                exact hK _ _ _ rfl hJ rfl
              · have l16 := hdep 16 (by kernel_rfl)
                replace l16 : us 16 = .pointer (some ⟨b, xb, none⟩) := l16
                simp only [List.getD_cons_succ, List.getD_cons_zero, List.setIfInBounds_toArray, List.set_cons_succ, List.set_cons_zero, l16] at hK ⊢
                refine wpOp_at rfl rfl ?_
                go_simp
                exact hK _ _ _ rfl hJ rfl
              · simp only [List.getD_cons_succ, List.getD_cons_zero, List.setIfInBounds_toArray, List.set_cons_succ, List.set_cons_zero] at hK ⊢
                refine wpOp_at rfl rfl ?_
                go_simp
                exact hK _ _ _ rfl hJ rfl
              · have l18 := hdep 18 (by kernel_rfl)
                replace l18 : us 18 = .int .i64 i := l18
                simp only [List.getD_cons_succ, List.getD_cons_zero, List.setIfInBounds_toArray, List.set_cons_succ, List.set_cons_zero, l18] at hK ⊢
                obtain rfl := hl1 rfl
                refine wpOp_at rfl rfl ?_
                go_simp
                exact hK _ _ _ rfl hJ.make trivial
              · have l17 := hdep 17 (by kernel_rfl)
                replace l17 : us 17 = pq.cell := l17
                simp only [List.getD_cons_succ, List.getD_cons_zero, List.setIfInBounds_toArray, List.set_cons_succ, List.set_cons_zero, l17] at hK ⊢
                obtain rfl := hl2 rfl
                obtain rfl := hw1 (by kernel_rfl)
                refine wpOp_at rfl rfl ?_
                refine MixF.app hJ H5.out.2.2.2.2.2.1 H5.out.2.1 H5.out.2.2.2.2.1 (.tmp 44) (.tmp 46) rfl rfl rfl ?_
                intro v W9 hv
                exact hK _ _ _ rfl hv trivial
              · have l0 := hdep 0 (by kernel_rfl)
                replace l0 : us 0 = .slice (some ⟨b, 0, none⟩) n n := l0
                have l7 := hdep 7 (by kernel_rfl)
                replace l7 : us 7 = .int .i64 xb := l7
                simp only [List.getD_cons_succ, List.getD_cons_zero, List.setIfInBounds_toArray, List.set_cons_succ, List.set_cons_zero, l0, l7] at hK ⊢
                refine wpOp_at rfl rfl ?_
                go_simp
                exact hK _ _ _ rfl hJ rfl
            case hlastM12 =>
              intro us Wm hJ hall
              have l0 := hall 0 (by decide)
              replace l0 : us 0 = .slice (some ⟨b, 0, none⟩) n n := l0
              have l1 := hall 1 (by decide)
              replace l1 : us 1 = .slice (some ⟨b1, o1, none⟩) n gc := l1
              have l2 := hall 2 (by decide)
              replace l2 : us 2 = .int .i64 i := l2
              have l3 := hall 3 (by decide)
              replace l3 : us 3 = .pointer (some ⟨b1, o1 + i, none⟩) := l3
              have l4 := hall 4 (by decide)
              replace l4 : us 4 = .slice (some ⟨bz, oz, none⟩) q rc := l4
              have l5 := hall 5 (by decide)
              replace l5 : us 5 = .int .i64 c := l5
              have l6 := hall 6 (by decide)
              replace l6 : us 6 = .pointer (some ⟨bz, oz + c, none⟩) := l6
              have l7 := hall 7 (by decide)
              replace l7 : us 7 = .int .i64 xb := l7
              have l8 := hall 8 (by decide)
              replace l8 : us 8 = .slice (some ⟨b, 0, none⟩) n n := l8
              have l9 := hall 9 (by decide)
              replace l9 : us 9 = .slice (some ⟨b1, o1, none⟩) n gc := l9
              have l10 := hall 10 (by decide)
              replace l10 : us 10 = .int .i64 i := l10
              have l11 := hall 11 (by decide)
              replace l11 : us 11 = .pointer (some ⟨b1, o1 + i, none⟩) := l11
              have l12 := hall 12 (by decide)
              replace l12 : us 12 = .slice (some ⟨bz, oz, none⟩) q rc := l12
              have l13 := hall 13 (by decide)
              replace l13 : us 13 = .int .i64 c := l13
              have l14 := hall 14 (by decide)
              replace l14 : us 14 = .pointer (some ⟨bz, oz + c, none⟩) := l14
              have l15 := hall 15 (by decide)
              replace l15 : us 15 = .int .i64 xb := l15
              have l16 := hall 16 (by decide)
              replace l16 : us 16 = .pointer (some ⟨b, xb, none⟩) := l16
              have l17 := hall 17 (by decide)
              replace l17 : us 17 = pq.cell := l17
              have l18 := hall 18 (by decide)
              replace l18 : us 18 = .int .i64 i := l18
              have l21 := hall 21 (by decide)
              replace l21 : us 21 = .pointer (some ⟨b, xb, none⟩) := l21
              simp only [actU, Act.put, List.setIfInBounds_toArray, List.set_cons_succ, List.set_cons_zero, Nat.reduceAdd, l0, l1, l2, l3, l4, l5, l6, l7, l8, l9, l10, l11, l12, l13, l14, l15, l16, l17, l18, l21]
              clear hall l0 l1 l2 l3 l4 l5 l6 l7 l8 l9 l10 l11 l12 l13 l14 l15 l16 l17 l18 l21
              obtain ⟨-, hcq, -, -, h2⟩ := hJ
              obtain ⟨p9, e9, hz9, hf9, ho9⟩ := h2 rfl
              rw [e9]
              have hpqe := H5.out.2.2.2.2.2.2.1
              rw [H5.out.2.2.2.2.2.2.2.1] at hz9
              rw [hpqe] at hcq ho9
              obtain ⟨g9, eg, -, -, cc9, ff9, -, -⟩ := H5.out.1.own.put hqF hcq hf9 ho9
              obtain rfl : b = g9 := by simpa using eg
              have hput := H5.out.1.putF hqF hcq hf9 ho9
              have H9 := Lib.hid (And.intro hput hz9)
              clear hput hcq hz9 hf9 ho9 hpqe e9 h2 eg
              refine wpOp_at rfl rfl ?_
              unfold Is.cell
              go_simp
              obtain ⟨wg, eg⟩ : ∃ wg, wg = Wm.setCell ⟨b, xb, none⟩ (.slice p9.1 p9.2.2.length p9.2.1) := ⟨_, rfl⟩
              rw [← eg]
              have HE := Lib.hid eg
              clear eg cc9 ff9
              go_wp2_with fail
              go_roundg (q - (c + 1))
              case measure => omega
              case rel =>
                refine ⟨c + 1, rfl, by omega, by go_num, Lib.hid ⟨FS.set xb p9, ?_⟩⟩
                rw [H5.out.2.2.2.2.2.2.2.2.1, turnF_snoc, ← H9.out.2, HE.out]
                exact H9.out.1
          · obtain rfl : q = c := by omega
            go_wp2_with fail
            go_roundg (n - (i + 1))
            case measure => omega
            case rel => exact ⟨i + 1, rfl, by omega, by go_num, Lib.hid ⟨FS, by rw [Cp.edgesTo_zero, ← HA.out.2.2]; exact hI⟩⟩
      · obtain rfl : n = i := by omega
        obtain ⟨FS, hI⟩ := hin.out
        have HI := Lib.hid hI
        clear hI
        go_wp2_with fail
        go_ret
        refine ⟨some ⟨b, 0, none⟩, n, FS, by rw [HI.out.len]; rfl, HI.out.own.base (by have := H1.out.size; have := HO.out.2; omega), ?_, H1.out.tr HI.out.chg⟩
        have h1 := HI.out.frm
        have h2 : Cp.edgesTo G n 0 = Cp.edges G := by rw [HG.out.2.2.2.1]; exact Cp.edgesTo_all
        rw [h2] at h1
        rw [h1, HG.out.2.2.2.1, turn_tab HG.out.2.1]
        unfold Cp.turnI
        rw [HG.out.1, if_pos rfl, HG.out.2.2.1]
end Go.Proofs.Ytplpboknmhgpiaa

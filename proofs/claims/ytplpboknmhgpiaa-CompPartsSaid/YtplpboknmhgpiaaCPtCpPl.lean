/-
  Of each number the place of its part, as the law reckons it.
  Conditions: the parts are those of a right graph.
-/
import Derived.Test.YtplpboknmhgpiaaCPtCpTn
import Derived.Test.YtplpboknmhgpiaaCPtCpO0
set_option linter.unusedVariables false
set_option linter.unusedSimpArgs false
set_option linter.unnecessarySimpa false
namespace Go.Proofs.Ytplpboknmhgpiaa
open Go.RowKit Go.MapKept Go.Shelf

theorem mixO_fresh {G : List (List Nat)} {L : List (List Nat)} (h : Cp.Told G L) (old : Nat → Int) {p k : Nat} (hp : p < L.length) (hk : k < (L.getD p []).length) : Cp.mixO L old p k (L.getD p [])[k] = old (L.getD p [])[k] := by
  have h1 := (Cp.told_place h hp (List.getElem_mem hk)).1
  unfold Cp.mixO
  have hr : (L.getD p []).Pairwise (· < ·) := by
    rw [show L.getD p [] = L[p] by simp [hp], h.rows p hp]
    exact Cp.rise_filter _ _
  have hn : (L.getD p [])[k] ∉ (L.getD p []).take k := fun hm => by
    obtain ⟨j, hj, hjk⟩ := List.getElem_of_mem hm
    rw [List.length_take] at hj
    rw [List.getElem_take] at hjk
    have := List.pairwise_iff_getElem.1 hr j k (by omega) hk (by omega)
    omega
  rw [if_neg]
  rintro (h2 | h2)
  · omega
  · exact hn h2.2
def PlaceP (w : World) (n : Nat) (L : List (List Nat)) (e : Ending) (w' : World) : Prop := ∃ g, e = .returned (.slice (some ⟨g, 0, none⟩) n n) ∧ w.heap.size ≤ g ∧ w'.heap[g]? = some (rowI ((List.range n).map (Cp.placeR L))) ∧ Chg [] w w'
def fillF (i : Nat) : Nat → Int := fun a => if a < i then -1 else 0
theorem fillF_succ (i : Nat) : fillF (i + 1) = Cp.upd (fillF i) i (-1) := by
  funext a
  unfold fillF Cp.upd
  by_cases h : a = i
  · subst h; simp
  · rw [if_neg h]
    show (if a < i + 1 then (-1 : Int) else 0) = (if a < i then -1 else 0)
    by_cases k : a < i
    · rw [if_pos k, if_pos (by omega)]
    · rw [if_neg k, if_neg (by omega)]
theorem rowI_congr {w : World} {b n : Nat} {f g : Nat → Int} (h : w.heap[b]? = some (rowI ((List.range n).map f))) (hfg : ∀ j, j < n → f j = g j) : w.heap[b]? = some (rowI ((List.range n).map g)) := by
  rw [h]; congr 2; exact List.map_congr_left fun j hj => hfg j (List.mem_range.1 hj)

set_option maxRecDepth 100000 in
set_option maxHeartbeats 8000000 in
theorem place_any (w : World) (pa : Option Addr) (m pc : Nat) (PS : List Is) (G : List (List Nat)) (hG : Cp.RG G) (n : Nat) (hn : n = G.length) (hm : m = PS.length) (hP : IntRows w pa PS) (hPS : PS.map (·.2.2) = Cp.intsG (Cp.partsR G)) :
    Calls Try.prog 13 #[.slice pa m pc, .int .i64 n] w (PlaceP w n (Cp.partsR G)) := by
  obtain ⟨L, hL⟩ : ∃ L, L = Cp.partsR G := ⟨_, rfl⟩
  have hT := Cp.told hG
  rw [← hL] at hPS hT ⊢
  have hn64 : n ≤ 64 := by rw [hn]; exact hG.few
  have hmL : m = L.length := by have := congrArg List.length hPS; rw [List.length_map, Cp.intsG_len] at this; omega
  have hm64 : m ≤ 64 := by have := (Cp.place_small hG 0).2.2; rw [← hL] at this; omega
  have H := Lib.hid (And.intro hn (And.intro hm (And.intro hP (And.intro hPS (And.intro hT hmL)))))
  have hmk := fun W => run_ints n (by omega) W
  have hB := heap_alloc_same w (rowI (List.replicate n 0))
  have hcB := (Chg.refl [] w).alloc (rowI (List.replicate n 0))
  obtain ⟨g, hg⟩ : ∃ g, g = w.heap.size := ⟨_, rfl⟩
  have hB2 : (w.alloc (rowI (List.replicate n 0))).heap[g]? = some (rowI ((List.range n).map (fillF 0))) := by
    rw [hg, hB]; congr 2
    rw [show (List.range n).map (fillF 0) = (List.range n).map (fun _ => (0 : Int)) from List.map_congr_left (fun a _ => by unfold fillF; simp), List.map_const', List.length_range]
  have HB := Lib.hid (And.intro hB2 (And.intro hcB hg))
  clear hn hm hP hPS hT hL hmL hB hcB hB2
  go_enter Try.func13, Try.ntmps13
  go_wp2_with fail
  rw [← hg]
  clear hg
  go_loopg [6] n (fun d iv wr => ∃ i : Nat, d = n - i ∧ i ≤ n ∧ iv = .int .i64 i ∧ Hid (wr.heap[g]? = some (rowI ((List.range n).map (fillF i))) ∧ Chg [] w wr))
  case atStart => exact ⟨0, rfl, Nat.zero_le _, rfl, Lib.hid ⟨HB.out.1, HB.out.2.1⟩⟩
  case round =>
    obtain ⟨i, rfl, hi, rfl, hin⟩ := hrel
    obtain ⟨wq, rfl⟩ : ∃ wz, wz = wr := ⟨_, rfl⟩
    by_cases hlt : i < n
    · have xv := rowI_get hin.out.1 hlt
      have xf := free_of_cells hin.out.1 i
      go_wp2_with fail
      go_roundg (n - (i + 1))
      case measure => omega
      case rel => exact ⟨i + 1, rfl, by omega, by go_num, Lib.hid ⟨by rw [fillF_succ]; exact rowI_set hin.out.1 (-1), hin.out.2.setCell (p := ⟨g, i, none⟩) (.inr (by have := HB.out.2.2; show w.heap.size ≤ g; omega)) _⟩⟩
    · obtain rfl : n = i := by omega
      have hst : wq.heap[g]? = some (rowI ((List.range n).map (Cp.mixO L (fun _ => -1) 0 0))) := by
        rw [Cp.mixO_zero]
        exact rowI_congr hin.out.1 (fun j hj => by unfold fillF; rw [if_pos hj])
      have HS := Lib.hid (And.intro hst hin.out.2)
      clear hst
      go_wp2_with fail
      go_loopg [7] m (fun d pv wr => ∃ p : Nat, d = m - p ∧ p ≤ m ∧ pv = .int .i64 p ∧ Hid (wr.heap[g]? = some (rowI ((List.range n).map (Cp.mixO L (fun _ => -1) p 0))) ∧ Chg [] w wr))
      case atStart => exact ⟨0, rfl, Nat.zero_le _, rfl, HS⟩
      case round =>
        obtain ⟨p, rfl, hp, rfl, hin2⟩ := hrel
        obtain ⟨ws, rfl⟩ : ∃ wz, wz = wr := ⟨_, rfl⟩
        by_cases hlt2 : p < m
        · obtain ⟨b1, o1, ra, rc, rfl, k1, k2, k3⟩ := rows_at H.out.2.2.1 H.out.2.2.2.1 (i := p) (by rw [← H.out.2.1]; exact hlt2)
          have hpL : p < L.length := by rw [← H.out.2.2.2.2.2]; exact hlt2
          have hrow : (Cp.intsG L).getD p [] = natI (L.getD p []) := by unfold Cp.intsG natI; simp [hpL]
          rw [hrow] at k1 k2 k3
          rw [natI_len] at k1 k3
          obtain ⟨q, hq⟩ : ∃ q, q = (L.getD p []).length := ⟨_, rfl⟩
          rw [← hq] at k1 k3
          have HK := Lib.hid (And.intro k1 (And.intro k2 (And.intro hq hpL)))
          clear k1 k2 hq hpL hrow
          go_wp2_with fail
          go_loopg [8] q (fun d kv wr => ∃ k : Nat, d = q - k ∧ k ≤ q ∧ kv = .int .i64 k ∧ Hid (wr.heap[g]? = some (rowI ((List.range n).map (Cp.mixO L (fun _ => -1) p k))) ∧ Chg [] w wr))
          case atStart => exact ⟨0, rfl, Nat.zero_le _, rfl, hin2⟩
          case round =>
            obtain ⟨k, rfl, hk, rfl, hin3⟩ := hrel
            obtain ⟨wt, rfl⟩ : ∃ wz, wz = wr := ⟨_, rfl⟩
            have k1 := hin3.out.2.cell HK.out.1 (by simp)
            by_cases hlt3 : k < q
            · have hkl : k < (L.getD p []).length := by rw [← HK.out.2.2.1]; exact hlt3
              obtain ⟨bz, oz, rfl, hz⟩ := (HK.out.2.1.keep hin3.out.2.kp) k (by rw [natI_len]; exact hkl)
              obtain ⟨a, ha⟩ : ∃ a, a = (L.getD p [])[k] := ⟨_, rfl⟩
              have hz' : wt.cell? ⟨bz, oz + k, none⟩ = some (.int .i64 (a : Nat)) := by rw [hz]; simp [natI, ha]
              obtain ⟨-, han⟩ := Cp.told_place H.out.2.2.2.2.1 HK.out.2.2.2 (List.getElem_mem hkl)
              rw [← ha, ← H.out.1] at han
              have hsucc := Cp.mixO_succ H.out.2.2.2.2.1 (fun _ => -1) HK.out.2.2.2 hkl
              have hfr := mixO_fresh H.out.2.2.2.2.1 (fun _ => -1) HK.out.2.2.2 hkl
              rw [← ha] at hsucc hfr
              have xv := rowI_get hin3.out.1 han
              rw [hfr] at xv
              have xf := free_of_cells hin3.out.1 a
              have HX := Lib.hid hsucc
              have hd1 : decide ((n : Int) ≤ (a : Int)) = false := decide_eq_false (by omega)
              clear hz ha hsucc hfr hkl
              go_wp2_with fail
              go_roundg (q - (k + 1))
              case measure => omega
              case rel => exact ⟨k + 1, rfl, by omega, by go_num, Lib.hid ⟨by rw [HX.out]; exact rowI_set hin3.out.1 p, hin3.out.2.setCell (p := ⟨g, a, none⟩) (.inr (by have := HB.out.2.2; show w.heap.size ≤ g; omega)) _⟩⟩
            · obtain rfl : q = k := by omega
              go_wp2_with fail
              go_roundg (m - (p + 1))
              case measure => omega
              case rel => exact ⟨p + 1, rfl, by omega, by go_num, Lib.hid ⟨by rw [Cp.mixO_row H.out.2.2.2.2.1 _ HK.out.2.2.2, ← HK.out.2.2.1]; exact hin3.out.1, hin3.out.2⟩⟩
        · obtain rfl : m = p := by omega
          go_wp2_with fail
          go_ret
          refine ⟨g, rfl, by have := HB.out.2.2; omega, ?_, hin2.out.2⟩
          refine rowI_congr hin2.out.1 (fun j hj => ?_)
          rw [H.out.2.2.2.2.2]
          exact Cp.mixO_all H.out.2.2.2.2.1 _ (by rw [← H.out.1]; exact hj)
end Go.Proofs.Ytplpboknmhgpiaa

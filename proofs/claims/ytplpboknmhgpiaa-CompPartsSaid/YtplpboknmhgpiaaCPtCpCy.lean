/-
  The kit: rows of rows of numbers are copied.
  Conditions: they read as data.
-/
import Derived.Test.YtplpboknmhgpiaaCPtCpOpen
import Derived.Test.YtplpboknmhgpiaaCPtGCopy
import Derived.Test.YtplpboknmhgpiaaCPtGApp
set_option linter.unusedVariables false
set_option linter.unusedSimpArgs false
set_option linter.unnecessarySimpa false
namespace Go.Proofs.Ytplpboknmhgpiaa
open Go.RowKit Go.MapKept Go.Shelf

/-- A row copied. -/
def CopyOne (w : World) (p : Is) : Prop := w.ownsRow 0 3 1 p.cell p.2.2.length (p.2.2.map (Value.int .i64))
structure CopyR (B : Nat) (w : World) (a : Option Addr) (c : Nat) (VS : List Is) : Prop where
  row : w.ownsRow B 26 1 (.slice a VS.length c) VS.length (VS.map Is.cell)
  each : ∀ p ∈ VS, CopyOne w p
theorem CopyOne.chg {w w' : World} {S : List Nat} {p : Is} (h : CopyOne w p) (hc : Chg S w w') (hS : ∀ k ∈ S, NotRow w 3 k) : CopyOne w' p := hc.rowOf h hS
theorem CopyR.chg0 {B : Nat} {w w' : World} {a : Option Addr} {c : Nat} {VS : List Is} (h : CopyR B w a c VS) (hc : Chg [] w w') : CopyR B w' a c VS := ⟨hc.row h.row (fun _ _ => by simp), fun p hp => (h.each p hp).chg hc (by simp)⟩
theorem CopyR.rows {B : Nat} {w : World} {a : Option Addr} {c : Nat} {VS : List Is} (h : CopyR B w a c VS) : IntRows w a VS := fun i hi => by
  obtain ⟨b, e, hcell⟩ : ∃ b, a = some ⟨b, 0, none⟩ ∧ w.cell? ⟨b, i, none⟩ = some VS[i].cell := by
    rcases h.row.2 with ⟨h0, h1⟩ | ⟨g, cap, cur, h0, hb, hg, hn, hc, hs, ht⟩
    · omega
    · simp only [Value.slice.injEq] at h0
      obtain ⟨rfl, -, rfl⟩ := h0
      refine ⟨g, rfl, ?_⟩
      have := (row_put h.row (i := i) (by omega)).1
      rw [this]; simp [hi]
  obtain ⟨h1, h2, h3, h4⟩ := ownInts_read (w := w) (a := VS[i].1) (n := VS[i].2.2.length) (c := VS[i].2.1) (zs := VS[i].2.2) (h.each _ (List.getElem_mem hi))
  simp only [maxLen] at h4
  exact ⟨b, 0, e, by rw [Nat.zero_add]; exact hcell, h1, by omega⟩
def CopyRowsP (w : World) (zss : List (List Int)) (e : Ending) (w' : World) : Prop := ∃ a c VS, e = .returned (.slice a zss.length c) ∧ VS.map (·.2.2) = zss ∧ CopyR w.heap.size w' a c VS ∧ Chg [] w w'

set_option maxRecDepth 100000 in
set_option maxHeartbeats 4000000 in
theorem CopyIntRows_any (w : World) (a : Option Addr) (n c : Nat) (VS : List Is) (hn : n = VS.length) (hs : n ≤ 1000000) (hl : ∀ p ∈ VS, p.2.2.length ≤ 1000000) (hx : IntRows w a VS) :
    Calls Try.prog 18 #[.slice a n c] w (CopyRowsP w (VS.map (·.2.2))) := by
  obtain ⟨j0, hj0, hy0, hy1, hy2⟩ := info_parts Try.infoInts
  have H := Lib.hid (And.intro hn (And.intro hx hl))
  clear hn hx hl
  go_enter Try.func18, Try.ntmps18
  go_wp2_with fail
  go_loopg [4, 3] n (fun d iv ov wr => ∃ (i : Nat) (oa : Option Addr) (oc : Nat), d = n - i ∧ i ≤ n ∧ iv = .int .i64 i ∧ ov = .slice oa i oc ∧ Hid (∃ US : List Is, US.length = i ∧ US.map (·.2.2) = (VS.map (·.2.2)).take i ∧ CopyR w.heap.size wr oa oc US ∧ Chg [] w wr))
  case atStart => exact ⟨0, none, 0, rfl, Nat.zero_le _, rfl, rfl, Lib.hid ⟨[], rfl, rfl, ⟨World.ownsRow_nil _ _ _ _, by simp⟩, Chg.refl _ _⟩⟩
  case round =>
    obtain ⟨i, oa, oc, rfl, hi, rfl, rfl, hin⟩ := hrel
    obtain ⟨wq, rfl⟩ : ∃ wq, wq = wr := ⟨_, rfl⟩
    by_cases hlt : i < n
    · obtain ⟨US, u1, u2, u3, u4⟩ := hin.out
      have hiv : i < VS.length := by have := H.out.1; omega
      obtain ⟨bx, ox, rfl, hcx, ix, lx⟩ := (H.out.2.1.keep u4.kp) i hiv
      have hlm := H.out.2.2 _ (List.getElem_mem hiv)
      obtain ⟨zs, hzs⟩ : ∃ zs, zs = VS[i].2.2 := ⟨_, rfl⟩
      obtain ⟨va, hva⟩ : ∃ va, va = VS[i].1 := ⟨_, rfl⟩
      obtain ⟨vc, hvc⟩ : ∃ vc, vc = VS[i].2.1 := ⟨_, rfl⟩
      obtain ⟨m, hm⟩ : ∃ m, m = zs.length := ⟨_, rfl⟩
      simp only [Is.cell] at hcx
      rw [← hzs, ← hva, ← hvc, ← hm] at hcx
      rw [← hzs, ← hva] at ix
      rw [← hzs, ← hm] at hlm
      have hlent := CopyInts_any wq va m vc zs hm (by omega) ix
      have hrow := u3.row
      rw [u1] at hrow
      have HU := Lib.hid (And.intro u1 (And.intro u2 (And.intro u3 (And.intro u4 (And.intro hlent (And.intro hzs (And.intro hm hrow)))))))
      clear u1 u2 u3 u4 hlent hzs hm hrow ix lx hva hvc
      go_wp2_with fail
      refine HU.out.2.2.2.2.1.mono ?_
      rintro e w4 ⟨b, cc, rfl, hr4, hc4⟩
      unfold OwnInts at hr4
      obtain ⟨u1, u2, u3, u4, -, hzs, hm, hrow⟩ := HU.out
      rw [← hm] at hr4 ⊢
      have hcA := (Chg.refl [] w4).alloc (Obj.cells #[.slice b m cc] 26)
      have hcq := hc4.tr hcA
      have hrowA := hcq.row hrow (fun _ _ => by simp)
      have hrA := hcA.row hr4 (fun _ _ => by simp)
      have hb1 : ∀ u ∈ [Value.slice b m cc], u.oneCell' = true := by simp [Value.oneCell']
      have hb2 : i + 1 ≤ maxLen ∧ (i + 1) * 24 ≤ 140737488355328 := by simp only [maxLen]; omega
      have hnew := cells_at (w := w4.alloc (Obj.cells #[.slice b m cc] 26)) (heap_alloc_same _ _)
      have hbase := (u4.tr hcq).size
      have HA := Lib.hid (And.intro hrowA (And.intro hb1 (And.intro hb2 (And.intro hnew (And.intro hbase (And.intro hrA (And.intro hcq u4.size)))))))
      clear hrowA hb1 hb2 hnew hbase hrA hcq hcA hr4 hc4 u1 u2 u3 u4 hzs hm hrow
      go_wp2_with (at_builtin; refine wpList_append_own_at _ rfl _ _ 22 rfl w.heap.size 26 j0 _ 1 24 Try.underlying22 hj0 hy0 hy1 hy2 rfl (by decide) (.slice oa i oc) i (US.map Is.cell) rfl HA.out.1 ⟨w4.heap.size, 0, none⟩ 1 1 [.slice b m cc] rfl rfl HA.out.2.2.2.1 HA.out.2.1 HA.out.2.2.1.1 HA.out.2.2.1.2 HA.out.2.2.2.2.1 ?_; intro v' w6 hr5 hg5 hn5 hb5; obtain ⟨a5, c5, rfl⟩ := ownsRow_slice hr5; have HW := Lib.hid (And.intro hr5 hg5); clear hr5 hg5 hn5 hb5)
      go_roundg (n - (i + 1))
      case measure => omega
      case rel =>
        obtain ⟨u1, u2, u3, u4, -, hzs, hm, hrow⟩ := HU.out
        obtain ⟨hrowA, -, -, -, -, hrA, hcq, -⟩ := HA.out
        have hcg : Chg (Value.slice oa i oc).ownBlock.toList (w4.alloc (Obj.cells #[.slice b m cc] 26)) w6 := (Chg.refl _ _).grown HW.out.2 (fun k hk => .inl (by rw [hk]; simp))
        have hnr : ∀ k ∈ (Value.slice oa i oc).ownBlock.toList, NotRow (w4.alloc (Obj.cells #[.slice b m cc] 26)) 3 k := fun k hk => row_notrow hrowA (by simpa using hk) (by decide)
        refine ⟨i + 1, a5, c5, rfl, by omega, by go_num, rfl, Lib.hid ⟨US ++ [(b, cc, zs)], by rw [List.length_append, u1]; rfl, ?_, ⟨?_, fun p hp => ?_⟩, ?_⟩⟩
        · rw [List.map_append, u2, List.take_succ_eq_append_getElem (by rw [List.length_map]; have := H.out.1; omega), List.getElem_map, ← hzs]; rfl
        · rw [List.length_append, u1, List.map_append]
          have := HW.out.1
          rw [hm] at this
          exact this
        · rcases List.mem_append.1 hp with q | q
          · exact ((u3.each p q).chg hcq (by simp)).chg hcg hnr
          · rw [List.mem_singleton.1 q]
            have h1 : CopyOne (w4.alloc (Obj.cells #[.slice b m cc] 26)) (b, cc, zs) := by show World.ownsRow _ _ _ _ (.slice b zs.length cc) zs.length _; rw [← hm]; exact hrA
            exact h1.chg hcg hnr
        · exact (u4.tr hcq).trans hcg (fun j hj => .inr (row_beyond hrowA (by simpa using hj)).1)
    · obtain rfl : i = n := by omega
      go_wp2_with fail
      go_ret
      obtain ⟨US, u1, u2, u3, u4⟩ := hin.out
      rw [List.take_of_length_le (by rw [List.length_map, ← H.out.1]; exact Nat.le_refl _)] at u2
      exact ⟨oa, oc, US, by rw [List.length_map, ← H.out.1]; rfl, u2, u3, u4⟩

end Go.Proofs.Ytplpboknmhgpiaa

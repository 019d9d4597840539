/-
  The kit: rows of rows of numbers are lent, with marks behind each row; they are kept.
  Conditions: they read as data.
-/
import Derived.Test.YtplpboknmhgpiaaCEdCpOpen
import Derived.Test.YtplpboknmhgpiaaCEdAp0
set_option linter.unusedVariables false
set_option linter.unusedSimpArgs false
set_option linter.unnecessarySimpa false
namespace Go.Proofs.Ytplpboknmhgpiaa
open Go.RowKit Go.MapKept Go.Shelf

/-- A row lent: marks lie behind its end. -/
def LentOne (B : Nat) (w : World) (p : Is) : Prop := ∃ b, p.1 = some ⟨b, 0, none⟩ ∧ w.ownsRow B 3 1 (.slice p.1 (p.2.2.length + 12) p.2.1) (p.2.2.length + 12) ((p.2.2 ++ marksI 12).map (Value.int .i64))
structure LentR (B : Nat) (w : World) (a : Option Addr) (c : Nat) (VS : List Is) : Prop where
  row : w.ownsRow B 26 1 (.slice a VS.length c) VS.length (VS.map Is.cell)
  each : ∀ p ∈ VS, LentOne B w p
theorem LentOne.chg {B : Nat} {w w' : World} {S : List Nat} {p : Is} (h : LentOne B w p) (hc : Chg S w w') (hS : ∀ k ∈ S, NotRow w 3 k ∨ w.heap.size ≤ k ∨ k < B) : LentOne B w' p := by
  obtain ⟨b, e, hr⟩ := h
  refine ⟨b, e, hc.row hr (fun k hk hm => ?_)⟩
  rcases hS k hm with q | q | q
  · exact q _ _ _ _ _ hr hk
  · have := (row_beyond hr hk).2.1; omega
  · have := (row_beyond hr hk).1; omega
theorem LentR.chg0 {B : Nat} {w w' : World} {a : Option Addr} {c : Nat} {VS : List Is} (h : LentR B w a c VS) (hc : Chg [] w w') : LentR B w' a c VS := ⟨hc.row h.row (fun _ _ => by simp), fun p hp => (h.each p hp).chg hc (by simp)⟩
theorem LentOne.ints {B : Nat} {w : World} {p : Is} (h : LentOne B w p) : Ints w p.1 (p.2.2 ++ marksI 12) ∧ p.2.2.length + 12 ≤ p.2.1 ∧ p.2.1 ≤ maxLen := by
  obtain ⟨b, e, hr⟩ := h
  have hl : (p.2.2 ++ marksI 12).length = p.2.2.length + 12 := by rw [List.length_append, marksI_len]
  have := ownInts_read (w := w) (a := p.1) (n := p.2.2.length + 12) (c := p.2.1) (zs := p.2.2 ++ marksI 12) (by unfold OwnInts; rw [hl]; exact row_base hr (Nat.zero_le _))
  exact ⟨this.1, this.2.2.1, this.2.2.2⟩
theorem LentR.at {B : Nat} {w : World} {a : Option Addr} {c : Nat} {VS : List Is} (h : LentR B w a c VS) {i : Nat} (hi : i < VS.length) : ∃ b, a = some ⟨b, 0, none⟩ ∧ w.cell? ⟨b, i, none⟩ = some VS[i].cell := by
  rcases h.row.2 with ⟨h0, h1⟩ | ⟨g, cap, cur, h0, hb, hg, hn, hc, hs, ht⟩
  · omega
  · simp only [Value.slice.injEq] at h0
    obtain ⟨rfl, -, rfl⟩ := h0
    refine ⟨g, rfl, ?_⟩
    have := (row_put h.row (i := i) (by omega)).1
    rw [this]; simp [hi]
/-- What is lent reads as what it was made of. -/
theorem LentR.rows {B : Nat} {w : World} {a : Option Addr} {c : Nat} {VS : List Is} (h : LentR B w a c VS) : IntRows w a VS := fun i hi => by
  obtain ⟨b, e, hcell⟩ := h.at hi
  obtain ⟨h1, h2, h3⟩ := (h.each _ (List.getElem_mem hi)).ints
  simp only [maxLen] at h3
  refine ⟨b, 0, e, by rw [Nat.zero_add]; exact hcell, fun j hj => ?_, by omega⟩
  obtain ⟨b2, o2, e2, hc2⟩ := h1 j (by rw [List.length_append]; omega)
  exact ⟨b2, o2, e2, by rw [hc2, List.getElem_append_left hj]⟩
def LentRowsP (w : World) (zss : List (List Int)) (e : Ending) (w' : World) : Prop := ∃ a c VS, e = .returned (.slice a zss.length c) ∧ VS.map (·.2.2) = zss ∧ LentR w.heap.size w' a c VS ∧ Chg [] w w'

set_option maxRecDepth 100000 in
set_option maxHeartbeats 4000000 in
theorem LentIntRows_any (w : World) (a : Option Addr) (n c : Nat) (VS : List Is) (hn : n = VS.length) (hs : n ≤ 1000000) (hl : ∀ p ∈ VS, p.2.2.length ≤ 1000000) (hx : IntRows w a VS) :
    Calls Try.prog 33 #[.slice a n c] w (LentRowsP w (VS.map (·.2.2))) := by
  obtain ⟨j0, hj0, hy0, hy1, hy2⟩ := info_parts Try.infoInts
  have H := Lib.hid (And.intro hn (And.intro hx hl))
  clear hn hx hl
  go_enter Try.func33, Try.ntmps33
  go_wp2_with fail
  go_loopg [4, 3] n (fun d iv ov wr => ∃ (i : Nat) (oa : Option Addr) (oc : Nat), d = n - i ∧ i ≤ n ∧ iv = .int .i64 i ∧ ov = .slice oa i oc ∧ Hid (∃ US : List Is, US.length = i ∧ US.map (·.2.2) = (VS.map (·.2.2)).take i ∧ LentR w.heap.size wr oa oc US ∧ Chg [] w wr))
  case atStart => exact ⟨0, none, 0, rfl, Nat.zero_le _, rfl, rfl, Lib.hid ⟨[], rfl, rfl, ⟨World.ownsRow_nil _ _ _ _, by simp⟩, Chg.refl _ _⟩⟩
  case round =>
    obtain ⟨i, oa, oc, rfl, hi, rfl, rfl, hin⟩ := hrel
    obtain ⟨wq, rfl⟩ : ∃ wq, wq = wr := ⟨_, rfl⟩
    by_cases hlt : i < n
    · obtain ⟨US, u1, u2, u3, u4⟩ := hin.out
      have hiv : i < VS.length := by have := H.out.1; omega
      obtain ⟨bx, ox, rfl, hcx, ix, lx⟩ := (H.out.2.1.keep u4.kp) i hiv
      have hlm := H.out.2.2 _ (List.getElem_mem hiv)
      obtain ⟨zs, hzs⟩ : ∃ zs, zs = VS[i].2.2 := ⟨_, rfl⟩
      obtain ⟨va, hva⟩ : ∃ va, va = VS[i].1 := ⟨_, rfl⟩
      obtain ⟨vc, hvc⟩ : ∃ vc, vc = VS[i].2.1 := ⟨_, rfl⟩
      obtain ⟨m, hm⟩ : ∃ m, m = zs.length := ⟨_, rfl⟩
      simp only [Is.cell] at hcx
      rw [← hzs, ← hva, ← hvc, ← hm] at hcx
      rw [← hzs, ← hva] at ix
      rw [← hzs, ← hm] at hlm
      have hlent := LentInts_any wq va m vc zs hm (by omega) ix
      have hrow := u3.row
      rw [u1] at hrow
      have HU := Lib.hid (And.intro u1 (And.intro u2 (And.intro u3 (And.intro u4 (And.intro hlent (And.intro hzs (And.intro hm hrow)))))))
      clear u1 u2 u3 u4 hlent hzs hm hrow ix lx hva hvc
      go_wp2_with fail
      refine HU.out.2.2.2.2.1.mono ?_
      rintro e w4 ⟨b, cc, rfl, hr4, hc4⟩
      obtain ⟨u1, u2, u3, u4, -, hzs, hm, hrow⟩ := HU.out
      rw [← hm] at hr4 ⊢
      have hcA := (Chg.refl [] w4).alloc (Obj.cells #[.slice (some ⟨b, 0, none⟩) m cc] 26)
      have hcq := hc4.tr hcA
      have hrowA := hcq.row hrow (fun _ _ => by simp)
      have hrA := hcA.row hr4 (fun _ _ => by simp)
      have hb1 : ∀ u ∈ [Value.slice (some ⟨b, 0, none⟩) m cc], u.oneCell' = true := by simp [Value.oneCell']
      have hb2 : i + 1 ≤ maxLen ∧ (i + 1) * 24 ≤ 140737488355328 := by simp only [maxLen]; omega
      have hnew := cells_at (w := w4.alloc (Obj.cells #[.slice (some ⟨b, 0, none⟩) m cc] 26)) (heap_alloc_same _ _)
      have hbase := (u4.tr hcq).size
      have HA := Lib.hid (And.intro hrowA (And.intro hb1 (And.intro hb2 (And.intro hnew (And.intro hbase (And.intro hrA (And.intro hcq u4.size)))))))
      clear hrowA hb1 hb2 hnew hbase hrA hcq hcA hr4 hc4 u1 u2 u3 u4 hzs hm hrow
      go_wp2_with (at_builtin; refine wpList_append_own_at _ rfl _ _ 22 rfl w.heap.size 26 j0 _ 1 24 Try.underlying22 hj0 hy0 hy1 hy2 rfl (by decide) (.slice oa i oc) i (US.map Is.cell) rfl HA.out.1 ⟨w4.heap.size, 0, none⟩ 1 1 [.slice (some ⟨b, 0, none⟩) m cc] rfl rfl HA.out.2.2.2.1 HA.out.2.1 HA.out.2.2.1.1 HA.out.2.2.1.2 HA.out.2.2.2.2.1 ?_; intro v' w6 hr5 hg5 hn5 hb5; obtain ⟨a5, c5, rfl⟩ := ownsRow_slice hr5; have HW := Lib.hid (And.intro hr5 hg5); clear hr5 hg5 hn5 hb5)
      go_roundg (n - (i + 1))
      case measure => omega
      case rel =>
        obtain ⟨u1, u2, u3, u4, -, hzs, hm, hrow⟩ := HU.out
        obtain ⟨hrowA, -, -, -, -, hrA, hcq, -⟩ := HA.out
        have hcg : Chg (Value.slice oa i oc).ownBlock.toList (w4.alloc (Obj.cells #[.slice (some ⟨b, 0, none⟩) m cc] 26)) w6 := (Chg.refl _ _).grown HW.out.2 (fun k hk => .inl (by rw [hk]; simp))
        have hnr : ∀ k ∈ (Value.slice oa i oc).ownBlock.toList, NotRow (w4.alloc (Obj.cells #[.slice (some ⟨b, 0, none⟩) m cc] 26)) 3 k := fun k hk => row_notrow hrowA (by simpa using hk) (by decide)
        refine ⟨i + 1, a5, c5, rfl, by omega, by go_num, rfl, Lib.hid ⟨US ++ [(some ⟨b, 0, none⟩, cc, zs)], by rw [List.length_append, u1]; rfl, ?_, ⟨?_, fun p hp => ?_⟩, ?_⟩⟩
        · rw [List.map_append, u2, List.take_succ_eq_append_getElem (by rw [List.length_map]; have := H.out.1; omega), List.getElem_map, ← hzs]; rfl
        · rw [List.length_append, u1, List.map_append]
          have := HW.out.1
          rw [hm] at this
          exact this
        · rcases List.mem_append.1 hp with q | q
          · exact ((u3.each p q).chg hcq (by simp)).chg hcg (fun k hk => .inl (hnr k hk))
          · rw [List.mem_singleton.1 q]
            refine ⟨b, rfl, ?_⟩
            have h1 : LentOne wq.heap.size (w4.alloc (Obj.cells #[.slice (some ⟨b, 0, none⟩) m cc] 26)) (some ⟨b, 0, none⟩, cc, zs) := ⟨b, rfl, by show World.ownsRow _ _ _ _ (.slice (some ⟨b, 0, none⟩) (zs.length + 12) cc) (zs.length + 12) _; rw [← hm]; exact hrA⟩
            obtain ⟨b2, e2, h2⟩ := h1.chg hcg (fun k hk => .inl (hnr k hk))
            exact row_base h2 u4.size
        · exact (u4.tr hcq).trans hcg (fun j hj => .inr (row_beyond hrowA (by simpa using hj)).1)
    · obtain rfl : i = n := by omega
      go_wp2_with fail
      go_ret
      obtain ⟨US, u1, u2, u3, u4⟩ := hin.out
      rw [List.take_of_length_le (by rw [List.length_map, ← H.out.1]; exact Nat.le_refl _)] at u2
      exact ⟨oa, oc, US, by rw [List.length_map, ← H.out.1]; rfl, u2, u3, u4⟩

set_option maxRecDepth 100000 in
set_option maxHeartbeats 4000000 in
theorem KeptIntRows_any (w : World) (B : Nat) (a b : Option Addr) (n c m d' : Nat) (VS US : List Is) (hn : n = VS.length) (hm : m = US.length) (hs : n ≤ 1000000) (hl : ∀ p ∈ VS, p.2.2.length ≤ 1000000) (hx : LentR B w a c VS) (hy : IntRows w b US) (he : VS.map (·.2.2) = US.map (·.2.2)) :
    Calls Try.prog 40 #[.slice a n c, .slice b m d'] w fun e w' => e = .returned (.bool true) ∧ Chg [] w w' := by
  obtain rfl : m = n := by have := congrArg List.length he; rw [List.length_map, List.length_map] at this; omega
  have H := Lib.hid (And.intro hn (And.intro hx (And.intro hy (And.intro hl (And.intro he hm)))))
  clear hn hx hy hl he hm
  go_enter Try.func40, Try.ntmps40
  go_wp2_with fail
  go_loopg [5] m (fun d iv wr => ∃ k : Nat, d = m - k ∧ k ≤ m ∧ iv = .int .i64 k ∧ Hid (Chg [] w wr))
  case atStart => exact ⟨0, rfl, Nat.zero_le _, rfl, Lib.hid (Chg.refl _ _)⟩
  case round =>
    obtain ⟨k, rfl, hk, rfl, hin⟩ := hrel
    obtain ⟨wq, rfl⟩ : ∃ wq, wq = wr := ⟨_, rfl⟩
    by_cases hlt : k < m
    · have hkx : k < VS.length := by have := H.out.1; omega
      have hky : k < US.length := by have := H.out.2.2.2.2.2; omega
      have hLR := H.out.2.1.chg0 hin.out
      obtain ⟨ba, rfl, hcx⟩ := hLR.at hkx
      obtain ⟨bb, oy, rfl, hcy, iy, ly⟩ := (H.out.2.2.1.keep hin.out.kp) k hky
      obtain ⟨bz, ez, hrz⟩ := hLR.each _ (List.getElem_mem hkx)
      obtain ⟨i1, i2, i3⟩ := (hLR.each _ (List.getElem_mem hkx)).ints
      have hlm := H.out.2.2.2.1 _ (List.getElem_mem hkx)
      have hrow : VS[k].2.2 = US[k].2.2 := by
        have h1 : (VS.map (·.2.2))[k]? = (US.map (·.2.2))[k]? := by rw [H.out.2.2.2.2.1]
        simpa [hkx, hky] using h1
      obtain ⟨z, hz⟩ : ∃ z, z = VS[k].2.2 := ⟨_, rfl⟩
      simp only [Is.cell, ← hrow] at hcx hcy iy ly
      rw [ez] at hcx i1
      rw [← hz] at hcx hcy iy ly i1 i2 hlm
      obtain ⟨zl, hzl⟩ : ∃ zl, zl = z.length := ⟨_, rfl⟩
      obtain ⟨vc, hvc⟩ : ∃ vc, vc = VS[k].2.1 := ⟨_, rfl⟩
      obtain ⟨ua, hua⟩ : ∃ ua, ua = US[k].1 := ⟨_, rfl⟩
      obtain ⟨uc, huc⟩ : ∃ uc, uc = US[k].2.1 := ⟨_, rfl⟩
      rw [← hzl, ← hvc] at hcx
      rw [← hzl, ← hua, ← huc] at hcy
      rw [← hua] at iy
      rw [← hzl, ← hvc] at i2
      rw [← hvc] at i3
      rw [← hzl] at hlm
      have cA := calls_rg (w := wq) (fun w1 h1 => KeptInts_any w1 bz 0 zl vc ua zl uc z hzl hzl (by omega) i2 i3 (i1.keep h1.kp) (iy.keep h1.kp))
      have kx := cell_rg hcx
      have ky := cell_rg hcy
      clear hkx hky hLR hrz hrow hz hvc hua huc iy ly hcx hcy hzl i1 i2 i3 ez
      go_wp2_with fail
      refine wp_region_quiet_below (by kernel_rfl) (by kernel_rfl) ?_
      repeat (go_big_quiet_step (first | (with_reducible exact cA _ _)))
      refine wpQuiet_nil ?_
      intro w4 hw4
      have hc4 := chg_of_rg hw4
      clear hw4 cA kx ky
      go_wp2_with fail
      go_roundg (m - (k + 1))
      case measure => omega
      case rel => exact ⟨k + 1, rfl, by omega, by go_num, Lib.hid (hin.out.tr hc4)⟩
    · obtain rfl : k = m := by omega
      go_wp2_with fail
      go_ret
      exact ⟨rfl, hin.out⟩
end Go.Proofs.Ytplpboknmhgpiaa

/-
  The edges of a graph, handed out one by one: a range over a function.
  Conditions: the graph is right and reads as data.
-/
import Derived.Test.YtplpboknmhgpiaaCTlCpL
import Derived.Test.YtplpboknmhgpiaaCTlGMix
set_option linter.unusedVariables false
set_option linter.unusedSimpArgs false
set_option linter.unnecessarySimpa false
namespace Go.Proofs.Ytplpboknmhgpiaa
open Go.RowKit Go.MapKept Go.Shelf

set_option maxRecDepth 100000 in
set_option maxHeartbeats 2000000 in
theorem all_any (w : World) (a : Option Addr) (n c : Nat) :
    Calls Try.prog 42 #[.slice a n c] w fun e w' => e = .returned (.func (.func 52) #[] #[.pointer (some ⟨w.heap.size, 0, none⟩)]) ∧ w' = w.alloc (.cells #[.slice a n c] 40) := by
  go_enter Try.func42, Try.ntmps42
  go_wp2
  go_ret
  exact ⟨rfl, rfl⟩

section
attribute [local go_sem] Oper.semAt_some
set_option maxRecDepth 100000 in
set_option maxHeartbeats 8000000 in
theorem Edges_gives (w0 w : World) (ga : Option Addr) (n gc : Nat) (VG : List Is) (G : List (List Nat)) (hG : Cp.RG G) (hn : n = G.length) (hVG : VG.map (·.2.2) = Cp.intsG G) (hrows : IntRows w0 ga VG) (hgc : n ≤ gc ∧ gc ≤ 9223372036854775807) (b0 : Nat)
    (hb0 : w.heap[b0]? = some (.cells #[.slice ga n gc] 40 (0, 0))) (hc : Chg [] w0 w) :
    Gives Try.prog 52 #[.pointer (some ⟨b0, 0, none⟩)] (fun e : Nat × Nat => #[.int .i64 e.1, .int .i64 e.2]) (fun pre x _ => pre ++ [x] <+: Cp.edges G) (fun _ _ A B => Chg [] w0 A → Chg [] w0 B) (fun xs => xs = Cp.edges G) (fun _ => True) w := by
  intro m l J Jx W hW hJ hJx hY h0
  have hn64 : n ≤ 64 := by rw [hn]; exact hG.few
  have y0 := cells1 (hW.heap hb0 (by simp))
  have H := Lib.hid (And.intro hG (And.intro hn (And.intro hVG (And.intro hrows (And.intro hY (And.intro (hc.tr hW) h0))))))
  show CallsIn Fence.wide (m + 1) Try.prog 52 #[.func (.yield l) #[] #[], .pointer (some ⟨b0, 0, none⟩)] W _
  clear hG hn hVG hrows hb0 hc hW hJ hJx hY h0
  refine callsIn_of_wp Try.func52 rfl trivial ?_ rfl
  simp only [Try.ntmps52, List.size_toArray, List.length_cons, List.length_nil, Nat.reduceAdd, Nat.reduceSub, Array.replicate_succ, Array.replicate_zero, List.push_toArray, List.append_toArray, List.nil_append, List.cons_append]
  gi_wp2_with fail
  clear y0
  gi_loopg [9] n (fun d iv wr => ∃ i : Nat, d = n - i ∧ i ≤ n ∧ iv = .int .i64 i ∧ Hid (J (Cp.edgesTo G i 0) wr ∧ Chg [] w0 wr))
  case atStart => exact ⟨0, rfl, Nat.zero_le _, rfl, Lib.hid ⟨by have := H.out.2.2.2.2.2.2; simpa [Cp.edgesTo] using this, H.out.2.2.2.2.2.1⟩⟩
  case round =>
    obtain ⟨i, rfl, hi, rfl, hin⟩ := hrel
    obtain ⟨wq, rfl⟩ : ∃ wz, wz = wr := ⟨_, rfl⟩
    by_cases hlt : i < n
    · have hiG : i < G.length := by rw [← H.out.2.1]; exact hlt
      obtain ⟨b, o, ra, rc, rfl, k1, k2, k3⟩ := graph_row H.out.2.2.1 H.out.2.2.2.1 (c := i) hiG
      replace k1 := hin.out.2.kp.2 _ _ k1
      obtain ⟨q, hq⟩ : ∃ q, q = (Cp.row G i).length := ⟨_, rfl⟩
      rw [← hq] at k1 k3
      have HR := Lib.hid (And.intro k2 hq)
      clear k2 hq hiG
      gi_wp2_with fail
      clear k1
      gi_loopg [16] q (fun d jv wr => ∃ j : Nat, d = q - j ∧ j ≤ q ∧ jv = .int .i64 j ∧ Hid (J (Cp.edgesTo G i j) wr ∧ Chg [] w0 wr))
      case atStart => exact ⟨0, rfl, Nat.zero_le _, rfl, hin⟩
      case round =>
        obtain ⟨j, rfl, hj, rfl, hin2⟩ := hrel
        obtain ⟨ws, rfl⟩ : ∃ wz, wz = wr := ⟨_, rfl⟩
        by_cases hlt2 : j < q
        · have hjr : j < (Cp.row G i).length := by rw [← HR.out.2]; exact hlt2
          obtain ⟨bz, oz, rfl, hz⟩ := (HR.out.1.keep hin2.out.2.kp) j (by rw [natI_len]; exact hjr)
          obtain ⟨y, hy⟩ : ∃ y, y = (Cp.row G i)[j] := ⟨_, rfl⟩
          have hz' : ws.cell? ⟨bz, oz + j, none⟩ = some (.int .i64 (y : Nat)) := by
            rw [hz]; simp [natI, hy]
          have hpre : Cp.edgesTo G i j ++ [(i, y)] <+: Cp.edges G := by
            obtain ⟨r, hr⟩ := Cp.edgesTo_pre (G := G) (i := i) (j := j + 1) (by rw [← H.out.2.1]; omega)
            rw [Cp.edgesTo_succ hjr, ← hy] at hr
            exact ⟨r, hr⟩
          have hsucc : Cp.edgesTo G i (j + 1) = Cp.edgesTo G i j ++ [(i, y)] := by rw [Cp.edgesTo_succ hjr, ← hy]
          obtain ⟨fn, tmps, assign, body, hyy, hR⟩ := H.out.2.2.2.2.1 (Cp.edgesTo G i j) (i, y) ws hin2.out.1 hpre
          have HB := Lib.hid hsucc
          clear hz hy hpre hsucc hjr
          gi_wp2_with fail
          refine hR.mono ?_
          clear hR hyy hz'
          rintro e w4 (⟨rfl, hJ4, hk4⟩ | ⟨rfl, hJx4⟩)
          · have H4 := Lib.hid (And.intro hJ4 (hk4 hin2.out.2))
            clear hJ4 hk4
            gi_wp2_with fail
            gi_roundg (q - (j + 1))
            case measure => omega
            case rel => exact ⟨j + 1, rfl, by omega, by go_num, Lib.hid ⟨by rw [HB.out]; exact H4.out.1, H4.out.2⟩⟩
          · gi_wp2_with fail
            refine bodyPost_ret (v := .tuple #[]) (by simp [results, Try.results52, go_sem]) rfl ?_
            exact ⟨⟨_, rfl⟩, .inr ⟨_, trivial, hJx4⟩⟩
        · obtain rfl : j = q := by omega
          gi_wp2_with fail
          gi_roundg (n - (i + 1))
          case measure => omega
          case rel => exact ⟨i + 1, rfl, by omega, by go_num, Lib.hid ⟨by rw [Cp.edgesTo_zero, ← HR.out.2]; exact hin2.out.1, hin2.out.2⟩⟩
    · obtain rfl : i = n := by omega
      gi_wp2_with fail
      go_end0
      exact ⟨⟨_, rfl⟩, .inl ⟨_, rfl, by have := hin.out.1; rw [H.out.2.1, Cp.edgesTo_all] at this; exact this⟩⟩
end
end Go.Proofs.Ytplpboknmhgpiaa

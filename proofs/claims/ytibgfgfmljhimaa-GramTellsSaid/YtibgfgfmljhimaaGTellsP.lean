/-
  GramTells: for every input the law returns true, and each argument reads behind the call as it read before.
  Conditions: none.
-/
import Derived.Test.YtibgfgfmljhimaaRows
import Derived.WalkKit
import Derived.ProofKit
import Derived.OpenShut
import Derived.ShutString
import Derived.ChangeOld
import Derived.Below
import Derived.Test.YtibgfgfmljhimaaGOpen
import Derived.Test.YtibgfgfmljhimaaGTells
namespace Go.Proofs.Ytibgfgfmljhimaa.gramTells
open Go.ChangeShapes Go.WideShapes Go.ChangeAt Go.RowKit Go.Deep Go.Joins
open Go.ChangeMaps (open_string shut_string)
set_option linter.unusedVariables false
set_option linter.unusedSimpArgs false

theorem len_str (s : ByteArray) : s.data.toList.length = s.size := Array.length_toList
theorem weights_str {H : Type} (P : Program) (t : TypeId) (bytes : List UInt8) : bytes.length ∈ (DataW.lit (.string bytes) : DataW H).weights P t := by simp [DataW.weights]
set_option maxRecDepth 100000 in
theorem open_nodeval {H : Type} {enc : TypeId × Value → H} {w : World} {base b0 : Nat} {held : Bool} {r : Go.Reach} {v : Value} {d : DataW H} {p : List MemPlace} (hv : Value.okWide Try.prog w r b0 32 v) (h0 : DataW.Trod enc Try.prog w base (fun _ => true) held 32 v d p) :
    ∃ (y : Nd) (ak : Option Addr) (nk ck : Nat), v = .agg (y.cells ak nk ck) ∧ nk = y.kids.length ∧ I64 y.k ∧ (Within 32 d → nk * 8 ≤ reachBytes) := by
  obtain ⟨cs0, rfl, hsz⟩ := okWide_struct Try.underlying32 hv
  rw [Try.cellsNodeO] at hsz
  obtain ⟨fuel, h⟩ := h0
  have hcl : cs0.toList.length = 9 := by simpa using hsz
  have h : DataW.trod enc Try.prog w base (fun _ => true) held fuel 32 cs0.toList = some (d, p) := by simpa [Value.cells] using h
  obtain ⟨cs, hcs⟩ : ∃ cs, cs = cs0.toList := ⟨_, rfl⟩
  rw [← hcs] at hcl h
  obtain ⟨xs, n, _, hxe, _, hxl, hg⟩ := DataW.trod_struct Try.underlying32 h
  have g0 : DataW.trod enc Try.prog w base (fun _ => true) held n 26 ((cs.drop 0).take (Try.prog.cellsOf 26)) = xs[0]? := hg 0 _ rfl
  have g1 : DataW.trod enc Try.prog w base (fun _ => true) held n 29 ((cs.drop 1).take (Try.prog.cellsOf 29)) = xs[1]? := hg 1 _ rfl
  have g2 : DataW.trod enc Try.prog w base (fun _ => true) held n 9 ((cs.drop 5).take (Try.prog.cellsOf 9)) = xs[2]? := hg 2 _ rfl
  have g3 : DataW.trod enc Try.prog w base (fun _ => true) held n 3 ((cs.drop 6).take (Try.prog.cellsOf 3)) = xs[3]? := hg 3 _ rfl
  have g4 : DataW.trod enc Try.prog w base (fun _ => true) held n 3 ((cs.drop 7).take (Try.prog.cellsOf 3)) = xs[4]? := hg 4 _ rfl
  have g5 : DataW.trod enc Try.prog w base (fun _ => true) held n 30 ((cs.drop 8).take (Try.prog.cellsOf 30)) = xs[5]? := hg 5 _ rfl
  obtain ⟨k0, k1, k2, k3, k4, k5, k6, k7, k8, rfl⟩ := nine hcl
  obtain ⟨y0, y1, y2, y3, y4, y5, rfl⟩ := six (by simpa using hxl)
  simp only [Try.cellsKindO, Try.cellsClassO, Try.cellsStrO, Try.cellsIntO, Try.cellsIntsO, List.drop_zero, List.drop_succ_cons, List.take_succ_cons, List.take_zero, List.getElem?_cons_zero, List.getElem?_cons_succ] at g0 g1 g2 g3 g4 g5
  obtain ⟨v0, e0, _, w0⟩ := DataW.trod_int Try.underlying26 g0
  obtain ⟨z0, z1, z2, z3, n1, _, c0, c1, c2, c3⟩ := trod_array4 Try.underlying29 Try.cellsU64O g1
  obtain ⟨u0, f0, _, _⟩ := DataW.trod_int Try.underlying27 c0
  obtain ⟨u1, f1, _, _⟩ := DataW.trod_int Try.underlying27 c1
  obtain ⟨u2, f2, _, _⟩ := DataW.trod_int Try.underlying27 c2
  obtain ⟨u3, f3, _, _⟩ := DataW.trod_int Try.underlying27 c3
  obtain ⟨s, e2, _, w2⟩ := DataW.trod_string Try.underlying9 g2
  obtain ⟨v3, e3, _, w3⟩ := DataW.trod_int Try.underlying3 g3
  obtain ⟨v4, e4, _, w4⟩ := DataW.trod_int Try.underlying3 g4
  obtain ⟨ak, nk, ck, zs, e5, l1, l2, l3, l4, l5, l6⟩ := trod_ints g5
  simp only [List.cons.injEq, and_true] at e0 f0 f1 f2 f3 e2 e3 e4 e5
  subst e0 f0 f1 f2 f3 e2 e3 e4 e5
  have hc0 : cs0 = #[.int .i64 v0, .int .u64 u0, .int .u64 u1, .int .u64 u2, .int .u64 u3, .string s, .int .i64 v3, .int .i64 v4, .slice ak nk ck] := by
    apply Array.toList_inj.1
    rw [← hcs]
  subst hc0
  refine ⟨⟨v0, u0, u1, u2, u3, s, v3, v4, zs⟩, ak, nk, ck, rfl, l1, i64_of w0, fun hw => l6 fun m hm => hw m ?_⟩
  have hd : d = _ := congrArg Prod.fst hxe
  rw [hd]
  simp only [DataW.weights, Try.underlying32, List.map_cons, List.map_nil, DataW.weightsEach, List.mem_append]
  exact .inr (.inr (.inr (.inr (.inr (.inl hm)))))

theorem own : ownKnob Try.prog.godebug = none := by kernel_rfl
theorem laidOut : laidOutB Try.prog = true := by kernel_rfl

set_option maxRecDepth 100000 in
theorem lifted (os : Os) (started : os.Started) (H : Type) (enc : TypeId × Value → H) :
    ReturnsInHanded {} Try.checked os 3 .any (Rows.gramTellsSpec.pre6 enc Try.prog Try.f3 Rows.gramTellsRow.domain false) (Rows.gramTellsSpec.post enc Try.prog Try.f3 false true false false) := by
  refine returnsInHanded_of_change_sized (C := Try.checked) own started (by kernel_rfl) Try.func3
    (ChangeSpec.witness6 (enc := enc) (C := Try.checked) false ⟨#[], #[.agg #[.slice none 0 0, .slice none 0 0], .string ⟨#[]⟩, .agg #[.int .i64 0, .int .u64 0, .int .u64 0, .int .u64 0, .int .u64 0, .string ⟨#[]⟩, .int .i64 0, .int .i64 0, .slice none 0 0], .int .i64 0, .int .i64 0], []⟩ 8 (by kernel_rfl) (by kernel_rfl) (by kernel_rfl) (by kernel_rfl)) ?_
  intro W base args ds gs before hval0 hW hcnd hsz0 _
  have hval : ∀ (j : Nat) t v, Try.f3.params[j]? = some t → args[j]? = some v → Value.okWide Try.prog W .any base t v := hval0
  have hsz : (DataW.weightsEach Try.prog (Try.f3.params.toList ++ Rows.gramTellsSpec.plain.varTypes Try.prog) (ds ++ gs)).all (· ≤ reachBytes) = true := hsz0
  have hW' := hW
  obtain ⟨p, q, hA0, hV, rfl, hfz, hnd⟩ := hW
  have hA : DataW.TrodAll enc Try.prog W 0 (fun _ => true) true Try.f3.params.toList args.toList ds p := hA0
  rw [Try.params3] at hA hval hsz
  obtain ⟨v0, vs0, d0, ds0, p0, q0, hargs, rfl, rfl, h0, r0⟩ := trodAll_cons hA
  obtain ⟨v1, vs1, d1, ds1, p1, q1, rfl, rfl, rfl, h1, r1⟩ := trodAll_cons r0
  obtain ⟨v2, vs2, d2, ds2, p2, q2, rfl, rfl, rfl, h2, r2⟩ := trodAll_cons r1
  obtain ⟨v3, vs3, d3, ds3, p3, q3, rfl, rfl, rfl, h3, r3⟩ := trodAll_cons r2
  obtain ⟨v4, vs4, d4, ds4, p4, q4, rfl, rfl, rfl, h4, r4⟩ := trodAll_cons r3
  obtain ⟨rfl, rfl, rfl⟩ := trodAll_nil r4
  obtain rfl : args = #[v0, v1, v2, v3, v4] := by cases args; simp_all
  obtain ⟨rfl, rfl⟩ := trodVars_none hV
  have k0 := h0
  have lt0 : ∀ x ∈ p0, x.block < W.heap.size := by obtain ⟨m, hm⟩ := k0; exact DataW.trod_lt m _ _ _ hm
  have k2 := h2
  have lt2 : ∀ x ∈ p2, x.block < W.heap.size := by obtain ⟨m, hm⟩ := k2; exact DataW.trod_lt m _ _ _ hm
  have hwithin : Within 25 d0 := fun n hn => by
    have := List.all_eq_true.1 hsz n (DataW.weights_mem_each (j := 0) (t := 25) rfl rfl n hn)
    simpa using this
  have hwithin2 : Within 32 d2 := fun n hn => by
    have := List.all_eq_true.1 hsz n (DataW.weights_mem_each (j := 2) (t := 32) rfl rfl n hn)
    simpa using this
  have hwithin1 : Within 9 d1 := fun n hn => by
    have := List.all_eq_true.1 hsz n (DataW.weights_mem_each (j := 1) (t := 9) rfl rfl n hn)
    simpa using this
  obtain ⟨a1, n1, c1, a2, n2, c2, g, rfl, hg, hre⟩ := open_gram (hval 0 25 v0 rfl rfl) h0 hwithin
  obtain ⟨s, rfl, rfl, rfl, hss⟩ := open_string Try.underlying9 (hval 1 9 v1 rfl rfl) h1
  obtain ⟨y, ak, nk, ck, rfl, hk, hyk, hkw⟩ := open_nodeval (hval 2 32 v2 rfl rfl) h2
  obtain ⟨rules, rfl, rfl, rfl, w3⟩ := open_int Try.underlying3 (hval 3 3 v3 rfl rfl) h3
  obtain ⟨n, rfl, rfl, rfl, w4⟩ := open_int Try.underlying3 (hval 4 3 v4 rfl rfl) h4
  have hrs := reach_small
  have hsr : s.size ≤ 140737488355328 := by
    have := hwithin1 s.data.toList.length (weights_str _ _ _)
    have h2 := len_str s
    omega
  have hk2 : nk ≤ 17592186044416 := by have := hkw hwithin2; omega
  clear hA0 hval0
  refine (gramTells_any W a1 n1 c1 a2 n2 c2 g hg hre s hss y ak nk ck hk hk2 hyk rules n (i64_of w4) hsr).mono fun e W' ⟨he, hc⟩ => ?_
  have bel : Below W.heap.size W W' := hc.below (Nat.le_refl _) (by simp)
  subst he
  exact ⟨_, rfl, _, _, _, [], _, [], hW', trodAll_mk1 (shut_bool Try.underlying4 _), (trodAll_cons_mk (Below.trod laidOut (by kernel_rfl) (of_decide_eq_true (by kernel_rfl)) k0 bel lt0) (trodAll_cons_mk (shut_string Try.underlying9 hss) (trodAll_cons_mk (Below.trod laidOut (by kernel_rfl) (of_decide_eq_true (by kernel_rfl)) k2 bel lt2) (trodAll_cons_mk (shut_int Try.underlying3 w3) (trodAll_cons_mk (shut_int Try.underlying3 w4) trodAll_mk0))))), rfl, bel.frame _, fun h => by cases h⟩

theorem over : Rows.gramTellsRow.holds Try.pinned (OpenSpec.ofChange Rows.gramTellsSpec) :=
  OpenClaim.holds_of_wide 3 Try.f3 rfl rfl rfl rfl rfl rfl rfl ⟨rfl, rfl, rfl, rfl, rfl⟩ rfl rfl rfl rfl rfl (by kernel_rfl) Try.func3 (by kernel_rfl)
    (of_decide_eq_true (by kernel_rfl)) (by unfold Func.isWrapper; first | (rw [if_pos (by decide +kernel)]; kernel_rfl) | (rw [if_neg (by decide +kernel)]; exact ⟨rfl, rfl⟩))
    (fun os started H enc _ => lifted os started H enc)

/-- The statement. -/
theorem proved : Rows.GramTellsSaid := over
#print axioms proved
end Go.Proofs.Ytibgfgfmljhimaa.gramTells

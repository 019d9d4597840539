/-
  The shelf's contracts at this seat, in plain words (the kit's lay-plain.mjs wrote it): slices.Sort at ints, bits.Mul.
  Conditions: none.
-/
import Derived.Shelf.Sort.Plain
import Derived.Shelf.Bits.Mul64
import Derived.Shelf.Slices.In.SortNone
import Derived.Test.YtplpboknmhgpiaaProg
import Derived.Test.YtplpboknmhgpiaaCEdCpB
import Derived.Test.YtplpboknmhgpiaaCEdBase
import Derived.Sort.Grow
import Derived.Sort.Row
import Derived.Test.YtplpboknmhgpiaaCEdCpS
set_option linter.unusedVariables false
set_option linter.unusedSimpArgs false
set_option linter.unnecessarySimpa false
namespace Go.Proofs
open Go.Shelf
def Try.lays189_ren : Go.Shelf.Ren := ⟨fun | 189 => 54 | 125 => 62 | 257 => 61 | 128 => 86 | 129 => 87 | 294 => 77 | 295 => 78 | 296 => 79 | 297 => 80 | 298 => 81 | 299 => 82 | 216 => 83 | 300 => 84 | 301 => 85 | 328 => 100 | 329 => 101 | 330 => 102 | 331 => 103 | 332 => 104 | 215 => 105 | 343 => 109 | n => n, fun | 28 => 26 | 3 => 3 | 46 => 62 | 0 => 0 | 51 => 82 | 53 => 85 | 4 => 4 | 183 => 105 | 182 => 104 | 131 => 109 | 5 => 5 | 9 => 9 | 218 => 153 | 222 => 157 | 228 => 162 | 229 => 163 | n => n, fun | n => n⟩
theorem Try.lays189 : Go.Proofs.Lays.n189 Try.prog Try.lays189_ren := {
  mixed := by kernel_rfl
  f125 := Try.func62.trans (congrArg some (by kernel_rfl))
  f128 := Try.func86.trans (congrArg some (by kernel_rfl))
  f129 := Try.func87.trans (congrArg some (by kernel_rfl))
  f189 := Try.func54.trans (congrArg some (by kernel_rfl))
  f215 := Try.func105.trans (congrArg some (by kernel_rfl))
  f216 := Try.func83.trans (congrArg some (by kernel_rfl))
  f257 := Try.func61.trans (congrArg some (by kernel_rfl))
  f294 := Try.func77.trans (congrArg some (by kernel_rfl))
  f295 := Try.func78.trans (congrArg some (by kernel_rfl))
  f296 := Try.func79.trans (congrArg some (by kernel_rfl))
  f297 := Try.func80.trans (congrArg some (by kernel_rfl))
  f298 := Try.func81.trans (congrArg some (by kernel_rfl))
  f299 := Try.func82.trans (congrArg some (by kernel_rfl))
  f300 := Try.func84.trans (congrArg some (by kernel_rfl))
  f301 := Try.func85.trans (congrArg some (by kernel_rfl))
  f328 := Try.func100.trans (congrArg some (by kernel_rfl))
  f329 := Try.func101.trans (congrArg some (by kernel_rfl))
  f330 := Try.func102.trans (congrArg some (by kernel_rfl))
  f331 := Try.func103.trans (congrArg some (by kernel_rfl))
  f332 := Try.func104.trans (congrArg some (by kernel_rfl))
  f343 := Try.func109.trans (congrArg some (by kernel_rfl))
  t0 := Try.underlying0
  a0 := Try.isAgg0
  z0 := Try.sizeOf0
  v0 := Try.zeroValue0
  t3 := Try.underlying3
  a3 := Try.isAgg3
  z3 := Try.sizeOf3
  v3 := Try.zeroValue3
  t4 := Try.underlying4
  a4 := Try.isAgg4
  z4 := Try.sizeOf4
  v4 := Try.zeroValue4
  t5 := Try.underlying5
  a5 := Try.isAgg5
  z5 := Try.sizeOf5
  v5 := Try.zeroValue5
  t9 := Try.underlying9
  a9 := Try.isAgg9
  z9 := Try.sizeOf9
  v9 := Try.zeroValue9
  t28 := Try.underlying26
  a28 := Try.isAgg26
  z28 := Try.sizeOf26
  v28 := Try.zeroValue26
  t46 := Try.underlying62
  a46 := Try.isAgg62
  z46 := Try.sizeOf62
  v46 := Try.zeroValue62
  t51 := Try.underlying82
  a51 := Try.isAgg82
  z51 := Try.sizeOf82
  v51 := Try.zeroValue82
  t53 := Try.underlying85
  a53 := Try.isAgg85
  z53 := Try.sizeOf85
  v53 := Try.zeroValue85
  t131 := Try.underlying109
  a131 := Try.isAgg109
  z131 := Try.sizeOf109
  v131 := Try.zeroValue109
  t182 := Try.underlying104
  a182 := Try.isAgg104
  z182 := Try.sizeOf104
  v182 := Try.zeroValue104
  t183 := Try.underlying105
  a183 := Try.isAgg105
  z183 := Try.sizeOf105
  v183 := Try.zeroValue105
  t218 := Try.underlying153
  a218 := Try.isAgg153
  z218 := Try.sizeOf153
  v218 := Try.zeroValue153
  t222 := Try.underlying157
  a222 := Try.isAgg157
  z222 := Try.sizeOf157
  v222 := Try.zeroValue157
  t228 := Try.underlying162
  a228 := Try.isAgg162
  z228 := Try.sizeOf162
  v228 := Try.zeroValue162
  t229 := Try.underlying163
  a229 := Try.isAgg163
  z229 := Try.sizeOf163
  v229 := Try.zeroValue163 }
open Go.Sort Go.RowKit in
theorem Try.slices_Sort_int (blk off cap : Nat) (zs : List Int) (w : World) (hH : Holds (Value.int .i64) w blk off zs.toArray) (hblk : blk < w.heap.size) (hsz : zs.length < 4611686018427387904) :
    Calls Try.prog 54 #[.slice (some ⟨blk, off, none⟩) zs.length cap] w fun e w' =>
      e = .returned (.tuple #[]) ∧ ∃ n os, w' = grow (putRow (Value.int .i64) (Sort.ahead w n) blk off (zs.mergeSort fun x y => decide (x ≤ y)).toArray) os := Any.slices_Sort_int Try.lays189 blk off cap zs w hH hblk hsz
def Try.lays264_ren : Go.Shelf.Ren := ⟨fun | 264 => 60 | n => n, fun | 53 => 85 | 46 => 62 | n => n, fun | n => n⟩
theorem Try.lays264 : Go.Proofs.Lays.n264 Try.prog Try.lays264_ren := {
  mixed := by kernel_rfl
  f264 := Try.func60.trans (congrArg some (by kernel_rfl))
  t46 := Try.underlying62
  a46 := Try.isAgg62
  z46 := Try.sizeOf62
  v46 := Try.zeroValue62
  t53 := Try.underlying85
  a53 := Try.isAgg85
  z53 := Try.sizeOf85
  v53 := Try.zeroValue85 }
open Go.RowKit Go.Lib in
theorem Try.bits_Mul64 (x y : Nat) (hx : x < 18446744073709551616) (hy : y < 18446744073709551616) (w : World) :
    Calls Try.prog 60 #[.int .u64 x, .int .u64 y] w fun e w' => e = .returned (.tuple #[.int .u64 ((x * y / 18446744073709551616 : Nat) : Int), .int .u64 ((x * y % 18446744073709551616 : Nat) : Int)]) ∧ w' = w := Any.bits_Mul64 Try.lays264 x y hx hy w
def Try.lays212_ren : Go.Shelf.Ren := ⟨fun | 212 => 53 | 263 => 59 | 264 => 60 | n => n, fun | 46 => 62 | 51 => 82 | 146 => 83 | 53 => 85 | 148 => 86 | n => n, fun | n => n⟩
theorem Try.lays212 : Go.Proofs.Lays.n212 Try.prog Try.lays212_ren := {
  mixed := by kernel_rfl
  f212 := Try.func53.trans (congrArg some (by kernel_rfl))
  f263 := Try.func59.trans (congrArg some (by kernel_rfl))
  f264 := Try.func60.trans (congrArg some (by kernel_rfl))
  t46 := Try.underlying62
  a46 := Try.isAgg62
  z46 := Try.sizeOf62
  v46 := Try.zeroValue62
  t51 := Try.underlying82
  a51 := Try.isAgg82
  z51 := Try.sizeOf82
  v51 := Try.zeroValue82
  t53 := Try.underlying85
  a53 := Try.isAgg85
  z53 := Try.sizeOf85
  v53 := Try.zeroValue85
  t146 := Try.underlying83
  a146 := Try.isAgg83
  z146 := Try.sizeOf83
  v146 := Try.zeroValue83
  t148 := Try.underlying86
  a148 := Try.isAgg86
  z148 := Try.sizeOf86
  v148 := Try.zeroValue86 }
open Go.RowKit Go.Lib in
/-- math/bits.Mul: "Mul returns the full-width product of x and y": on a machine of 64 bits: Mul64's. (LAID: no walk: one application.) -/
theorem Try.bits_Mul (x y : Nat) (hx : x < 18446744073709551616) (hy : y < 18446744073709551616) (w : World) :
    Calls Try.prog 53 #[.int .u64 x, .int .u64 y] w fun e w' => e = .returned (.tuple #[.int .u64 ((x * y / 18446744073709551616 : Nat) : Int), .int .u64 ((x * y % 18446744073709551616 : Nat) : Int)]) ∧ w' = w := Any.bits_Mul Try.lays212 x y hx hy w
open Go.RowKit Go.Sort in
/-- .. and plain. (LAID: no walk: one application.) -/
theorem Try.slices_Sort_int_none (p : Option Addr) (cap : Nat) (w : World) :
    Calls Try.prog 54 #[.slice p 0 cap] w fun e w' => e = .returned (.tuple #[]) ∧ w' = w := Any.slices_Sort_int_none Try.lays189 p cap w
end Go.Proofs
set_option linter.unusedVariables false
set_option linter.unusedSimpArgs false
set_option linter.unnecessarySimpa false
namespace Go.Proofs.Ytplpboknmhgpiaa.Cp
section
variable {G : List (List Nat)}
theorem wf_aside_len {C : List Nat} {s : TS} (h : Wf G C s) : s.aside.length ≤ G.length := by
  have := len_sub (wf_nodup h) (m := List.range G.length) (fun x hx => List.mem_range.2 (wf_aside_lt h x hx))
  rwa [List.length_range] at this
/-- What is known within a visit, so many edges gone through. -/
theorem mid_facts (hG : RG G) {k : Nat} {C : List Nat} {s : TS} {a : Nat} (h : Pre G C s a (k + 1)) (hm : s.met a = 0) (hk : clk G.length s ≤ G.length) {j : Nat} (hj : j ≤ (row G a).length) :
    clk G.length (midT G k s a j) ≤ G.length ∧ (midT G k s a j).aside.length ≤ G.length ∧ a ∈ (midT G k s a j).aside ∧ (midT G k s a j).aside.Nodup ∧ (∀ x ∈ (midT G k s a j).aside, x < G.length) ∧ (midT G k s a j).met a = s.clock + 1 ∧
    (∀ (hj : j < (row G a).length), Pre G (a :: C) (midT G k s a j) (row G a)[j] k) := by
  obtain ⟨new, hM⟩ := mid_any hG h hm j hj
  exact ⟨Nat.le_trans (mid_clk hG k h.lt hm j hj) hk, wf_aside_len hM.wf, by rw [hM.aside]; simp, wf_nodup hM.wf, wf_aside_lt hM.wf, hM.met_a, fun hj => h.next hG hm hM (List.getElem_mem hj)⟩
theorem back_small (hG : RG G) {C : List Nat} {s : TS} (h : Wf G C s) (hk : clk G.length s ≤ G.length) {a : Nat} (ha : a ∈ s.aside) : s.back a ≤ 64 ∧ s.met a ≤ 64 := by
  have h1 := (h.low a ha).1
  have h2 := h.clock a
  have h3 : s.clock ≤ G.length := Nat.le_trans (Nat.le_add_right _ _) hk
  have := hG.few
  omega
end
section
variable {G : List (List Nat)}
def markT (f : Nat → Int) (v : Int) (l : List Nat) : Nat → Int := fun i => if i ∈ l then v else f i
theorem markT_nil (f : Nat → Int) (v : Int) : markT f v [] = f := by funext i; unfold markT; rw [if_neg (by simp)]
theorem markT_snoc (f : Nat → Int) (v : Int) (l : List Nat) (b : Nat) : markT f v (l ++ [b]) = upd (markT f v l) b v := by
  funext i
  unfold markT upd
  by_cases h : i = b
  · subst h; simp
  · simp [h]
/-- What is left of a number whose part ends with it. -/
theorem leave_not {n : Nat} {s : TS} {a j : Nat} (h : ¬ s.back a < s.met a) (h1 : topT s.aside a = s.aside.take (j + 1)) (h2 : dropT s.aside a = s.aside.drop (j + 1)) :
    leaveT n s a = { s with aside := s.aside.drop (j + 1), part := markT s.part (s.parts.length : Int) (s.aside.take (j + 1)), parts := s.parts ++ [(List.range n).filter (fun i => decide (i ∈ s.aside.take (j + 1)))] } := by
  unfold leaveT
  rw [if_neg h, h1, h2]; rfl
theorem drop_cons {l : List Nat} {t : Nat} (ht : t < l.length) : (l.drop t).reverse = (l.drop (t + 1)).reverse ++ [l[t]] := by
  rw [List.drop_eq_getElem_cons ht, List.reverse_cons]
theorem sort_part {n : Nat} {l : List Nat} (hn : l.Nodup) (hl : ∀ x ∈ l, x < n) : ((l.map (fun (x : Nat) => (x : Int))).mergeSort fun x y => decide (x ≤ y)) = ((List.range n).filter (fun i => decide (i ∈ l))).map (fun (x : Nat) => (x : Int)) := by
  refine sorted_part hn hl (List.mergeSort_perm _ _) ?_
  have := List.pairwise_mergeSort (le := fun (x y : Int) => decide (x ≤ y)) (fun a b c h1 h2 => by simp at *; omega) (fun a b => by simp; omega) (l.map (fun (x : Nat) => (x : Int)))
  exact this.imp (fun h => by simpa using h)
end
section
variable {G : List (List Nat)}
theorem wf_parts_len {C : List Nat} {s : TS} (h : Wf G C s) : s.parts.length ≤ G.length := by
  have hex : ∀ p, p < s.parts.length → ∃ a, s.part a = (p : Int) := h.some
  let f : Nat → Nat := fun p => if hp : p < s.parts.length then (hex p hp).choose else 0
  have hf : ∀ p, p < s.parts.length → s.part (f p) = (p : Int) := fun p hp => by
    have := (hex p hp).choose_spec
    simp only [f, hp, dif_pos]; exact this
  have hnd : ((List.range s.parts.length).map f).Nodup := by
    rw [List.nodup_iff_pairwise_ne, List.pairwise_map]
    refine (List.nodup_iff_pairwise_ne.1 List.nodup_range).imp_of_mem fun {x y} hx hy hxy e => hxy ?_
    have h1 := hf x (List.mem_range.1 hx)
    have h2 := hf y (List.mem_range.1 hy)
    rw [e] at h1; omega
  have := len_sub hnd (m := List.range G.length) (fun x hx => by
    obtain ⟨p, hp, rfl⟩ := List.mem_map.1 hx
    have h1 := hf p (List.mem_range.1 hp)
    refine List.mem_range.2 (h.lt _ (Nat.pos_of_ne_zero fun e => ?_))
    have := h.white _ e
    omega)
  simpa using this
theorem mid_parts (hG : RG G) {k : Nat} {C : List Nat} {s : TS} {a : Nat} (h : Pre G C s a (k + 1)) (hm : s.met a = 0) {j : Nat} (hj : j ≤ (row G a).length) : (midT G k s a j).parts.length ≤ G.length := by
  obtain ⟨new, hM⟩ := mid_any hG h hm j hj
  exact wf_parts_len hM.wf
end
end Go.Proofs.Ytplpboknmhgpiaa.Cp
set_option linter.unusedVariables false
set_option linter.unusedSimpArgs false
set_option linter.unnecessarySimpa false
namespace Go.Proofs.Ytplpboknmhgpiaa.Cp
section
variable {G : List (List Nat)}
theorem row_len (hG : RG G) (a : Nat) : (row G a).length ≤ 64 := by
  have := len_sub (l := row G a) (m := List.range G.length) ((hG.rise a).imp (fun h => Nat.ne_of_lt h)) (fun x hx => List.mem_range.2 (hG.lt a x hx))
  rw [List.length_range] at this
  have := hG.few; omega
theorem dfs_len {met : Nat → Bool} {l : List Nat} : l.length ≤ dfsM G met l := by unfold dfsM; omega
theorem dfs_first (hG : RG G) (a : Nat) : dfsM G (fun _ => false) [a] ≤ 4097 := by
  unfold dfsM
  have key : ∀ l : List Nat, (l.map (fun c => if (fun _ : Nat => false) c = true then 0 else (row G c).length)).sum ≤ l.length * 64 := by
    intro l
    induction l with
    | nil => simp
    | cons c l ih =>
      rw [List.map_cons, List.sum_cons, List.length_cons]
      have := row_len hG c
      simp only [Bool.false_eq_true, if_false] at ih ⊢
      omega
  have h1 := key (List.range G.length)
  rw [List.length_range] at h1
  have := hG.few
  rw [List.length_singleton]
  omega
end
end Go.Proofs.Ytplpboknmhgpiaa.Cp
set_option linter.unusedVariables false
set_option linter.unusedSimpArgs false
set_option linter.unnecessarySimpa false
namespace Go.Proofs.Ytplpboknmhgpiaa
open Go.RowKit Go.MapKept Go.Sort

def sorted (zs : List Int) : List Int := zs.mergeSort fun x y => decide (x ≤ y)
theorem sorted_length (zs : List Int) : (sorted zs).length = zs.length := by simp [sorted]

theorem putCells_take (enc : Int → Value) (ds : List Int) (cur : Array Value) (h : ds.length ≤ cur.size) : (putCells enc 0 ds.toArray cur).toList.take ds.length = ds.map enc := by
  apply List.ext_getElem?
  intro i
  rw [List.getElem?_take]
  by_cases hi : i < ds.length
  · rw [if_pos hi]
    have hic : i < cur.size := by omega
    simp [putCells, hic, hi]
  · rw [if_neg hi, List.getElem?_eq_none (by simp; omega)]

/-- What a sort leaves. -/
theorem sort_row {w w' : World} {g n cap e : Nat} {zs : List Int} (h : w.ownsRow 0 e 1 (.slice (some ⟨g, 0, none⟩) n cap) n (zs.map (Value.int .i64))) (k : Nat) (os : Array Obj)
    (hw : w' = grow (putRow (Value.int .i64) (Sort.ahead w k) g 0 (sorted zs).toArray) os) :
    w'.ownsRow 0 e 1 (.slice (some ⟨g, 0, none⟩) n cap) n ((sorted zs).map (Value.int .i64)) ∧ Chg [g] w w' := by
  have hlen : zs.length = n := by have := h.1; simpa using this
  rcases h.2 with ⟨h0, _⟩ | ⟨g', cap', cur, hv, hb, hg, hn, hc, hs, ht⟩
  · cases h0
  · simp only [Value.slice.injEq, Option.some.injEq, Addr.mk.injEq] at hv
    obtain ⟨⟨rfl, _⟩, _, rfl⟩ := hv
    have hlt := lt_of_block hg
    have hput : (putRow (Value.int .i64) (Sort.ahead w k) g 0 (sorted zs).toArray).heap[g]? = some (.cells (putCells (Value.int .i64) 0 (sorted zs).toArray cur) e (0, 0)) := by
      have h1 : w.heap[g] = .cells cur e (0, 0) := by simpa [Array.getElem?_eq_getElem hlt] using hg
      show (w.heap.modify g _)[g]? = _
      rw [Array.getElem?_eq_getElem (by simpa using hlt), Array.getElem_modify_self, h1]
      rfl
    subst hw
    have hold : ∀ i, i < w.heap.size → (grow (putRow (Value.int .i64) (Sort.ahead w k) g 0 (sorted zs).toArray) os).heap[i]? = (putRow (Value.int .i64) (Sort.ahead w k) g 0 (sorted zs).toArray).heap[i]? := by
      intro i hi
      show (_ ++ os)[i]? = _
      rw [Array.getElem?_append_left (by simpa using hi)]
    refine ⟨⟨by simp [sorted_length, hlen], .inr ⟨g, cap, _, rfl, Nat.zero_le _, (hold g hlt).trans hput, hn, hc, by simp [putCells, hs], ?_⟩⟩, ⟨rfl, rfl, rfl, ?_, fun i hi hm => ?_⟩⟩
    · have := putCells_take (Value.int .i64) (sorted zs) cur (by rw [sorted_length]; omega)
      rw [sorted_length, hlen] at this
      simpa using this
    · show _ ≤ (_ ++ os).size
      simp [putRow, mapBlock, Sort.ahead]
    · rw [hold i hi]
      show (w.heap.modify g _)[i]? = _
      rw [Array.getElem?_modify, if_neg (fun e => hm (by simp [e]))]
theorem row_holds {w : World} {g n cap e : Nat} {zs : List Int} (h : w.ownsRow 0 e 1 (.slice (some ⟨g, 0, none⟩) n cap) n (zs.map (Value.int .i64))) : Holds (Value.int .i64) w g 0 zs.toArray := by
  intro j hj
  rcases h.2 with ⟨h0, _⟩ | ⟨g', cap', cur, hv, hb, hg, hn, hc, hs, ht⟩
  · cases h0
  · simp only [Value.slice.injEq, Option.some.injEq, Addr.mk.injEq] at hv
    obtain ⟨⟨rfl, _⟩, _, rfl⟩ := hv
    have hj' : j < zs.length := by simpa using hj
    refine ⟨?_, free_of_cells hg _⟩
    rw [cell_of_cells hg]
    have h1 : (zs.map (Value.int .i64))[j]? = some (.int .i64 zs[j]) := by simp [hj']
    rw [← ht, List.getElem?_take] at h1
    split at h1
    · simpa [hj'] using h1
    · cases h1
end Go.Proofs.Ytplpboknmhgpiaa
set_option linter.unusedVariables false
set_option linter.unusedSimpArgs false
set_option linter.unnecessarySimpa false
namespace Go.Proofs.Ytplpboknmhgpiaa
open Go.RowKit Go.MapKept Go.Shelf

theorem row_up {w : World} {B e size n : Nat} {v : Value} {xs : List Value} (h : w.ownsRow 0 e size v n xs) (hB : ∀ k, v.ownBlock = some k → B ≤ k) : w.ownsRow B e size v n xs := by
  refine ⟨h.1, ?_⟩
  rcases h.2 with h0 | ⟨g, cap, cur, h0, hb, h1⟩
  · exact .inl h0
  · exact .inr ⟨g, cap, cur, h0, hB g (by rw [h0]; rfl), h1⟩
/-- What a sort leaves of a row of numbers. -/
theorem sortIs_any (w : World) (B : Nat) (X : Is) (h : FreshInts B w X.1 X.2.1 X.2.2) (hn : X.2.2.length < 4611686018427387904) :
    Calls Try.prog 54 #[X.cell] w fun e w' => e = .returned (.tuple #[]) ∧ FreshInts B w' X.1 X.2.1 (sorted X.2.2) ∧ Chg X.own.toList w w' := by
  obtain ⟨a, c, zs⟩ := X
  have h0 : w.ownsRow 0 3 1 (.slice a zs.length c) zs.length (zs.map (Value.int .i64)) := row_base h (Nat.zero_le _)
  show Calls Try.prog 54 #[.slice a zs.length c] w _
  rcases h0.2 with ⟨hv, hl⟩ | ⟨g, cap, cur, hv, _⟩
  · have hz : zs = [] := List.eq_nil_of_length_eq_zero hl
    subst hz
    cases hv
    refine (Try.slices_Sort_int_none none 0 w).mono ?_
    rintro e w' ⟨rfl, rfl⟩
    exact ⟨rfl, by show FreshInts B _ none 0 (sorted []); simpa [sorted] using h, Chg.refl _ _⟩
  · simp only [Value.slice.injEq] at hv
    obtain ⟨rfl, _, rfl⟩ := hv
    refine (Try.slices_Sort_int g 0 c zs w (row_holds h0) (h0.lt g rfl).2 hn).mono ?_
    rintro e w' ⟨rfl, k, os, hw⟩
    have hs := sort_row h0 k os hw
    refine ⟨rfl, ?_, by simpa [Is.own, Is.cell, Value.ownBlock] using hs.2⟩
    show FreshInts B w' (some ⟨g, 0, none⟩) c (sorted zs)
    unfold FreshInts
    rw [sorted_length]
    exact row_up hs.1 (fun k hk => (row_beyond h (by exact hk)).1)
theorem Apt.grow {B : Nat} {w : World} {Y X X' : Is} (h : Apt Y X) (hY : FreshInts B w Y.1 Y.2.1 Y.2.2) (ho : X'.own = X.own ∨ ∃ k, X'.own = some k ∧ w.heap.size ≤ k) : Apt Y X' := fun k hk hk2 => by
  rcases ho with e | ⟨j, e, hj⟩
  · exact h k hk (by rw [← e]; exact hk2)
  · rw [e] at hk2
    have := (row_lt hY hk).2
    simp only [Option.some.injEq] at hk2
    omega
theorem Apt.own {Y Y' X : Is} (h : Apt Y X) (e : Y'.own = Y.own) : Apt Y' X := fun k hk => h k (by rw [← e]; exact hk)
theorem apt_none {Y X : Is} (h : X.own = none) : Apt Y X := fun k _ e => by rw [h] at e; cases e
section
variable {B : Nat} {w w' : World} {sb : Nat} {ga : Option Addr} {gn gc n : Nat} {A M K P : Is} {la : Option Addr} {lc : Nat} {VS : List Is} {s : Cp.TS}
/-- A row beside is changed. -/
theorem SearchIs.keepX (h : SearchIs B w sb ga gn gc n A M K P la lc VS s) {S : List Nat} (hc : Chg S w w') {X : Is} {B' : Nat} (hX : FreshInts B' w X.1 X.2.1 X.2.2) (hS : ∀ k ∈ S, X.own = some k) (xA : Apt A X) (xM : Apt M X) (xK : Apt K X) (xP : Apt P X) (xV : ∀ q ∈ VS, Apt q X) : SearchIs B w' sb ga gn gc n A M K P la lc VS s :=
  ⟨h.low, hc.heap h.head (fun hm => row_ne_search hX h.head (hS _ hm)), hc.row h.rA (fun k hk hm => xA k hk (hS k hm)), hc.row h.rM (fun k hk hm => xM k hk (hS k hm)), hc.row h.rK (fun k hk hm => xK k hk (hS k hm)), hc.row h.rP (fun k hk hm => xP k hk (hS k hm)),
   h.own.keepS hc (fun k hk => row_notrow hX (hS k hk) (by decide)) (fun k hk p hp e => xV p hp k e (hS k hk)), h.aAM, h.aAK, h.aAP, h.aMK, h.aMP, h.aKP, h.vA, h.vM, h.vK, h.vP, h.aside, h.met, h.back, h.part, h.parts⟩
end
/-- A search, and a row of numbers beside it. -/
def WithX (B : Nat) (w : World) (sb : Nat) (ga : Option Addr) (gn gc n : Nat) (s : Cp.TS) (X : Is) : Prop :=
  ∃ (A M K P : Is) (la : Option Addr) (lc : Nat) (VS : List Is), SearchIs B w sb ga gn gc n A M K P la lc VS s ∧ FreshInts B w X.1 X.2.1 X.2.2 ∧ Apt A X ∧ Apt M X ∧ Apt K X ∧ Apt P X ∧ ∀ q ∈ VS, Apt q X
end Go.Proofs.Ytplpboknmhgpiaa

/-
  The shelf's contracts at this seat, in plain words (the kit's lay-plain.mjs wrote it): slices.Sort at ints, bits.Mul.
  Conditions: none.
-/
import Derived.Shelf.Sort.Plain
import Derived.Shelf.Bits.Mul64
import Derived.Shelf.Slices.In.SortNone
import Derived.Test.YtlklmpjakeedcaaGreatDoorProg
import Derived.Test.YtlklmpjakeedcaaGreatDoorSEnBase
import Derived.Sort.Grow
import Derived.Sort.Row
import Derived.Test.YtlklmpjakeedcaaGreatDoorSEnCpE
import Derived.Laws.CopyOwn
import Derived.Deep.Cut
import Derived.StillTailTactics
import Derived.BigRegion
import Derived.Test.YtlklmpjakeedcaaGreatDoorSEnCpR
import Derived.Test.YtlklmpjakeedcaaGreatDoorSEnRf1
set_option linter.unusedVariables false
set_option linter.unusedSimpArgs false
set_option linter.unnecessarySimpa false
namespace Go.Proofs
open Go.Shelf
def Tryz.lays189_ren : Go.Shelf.Ren := ⟨fun | 189 => 178 | 125 => 185 | 257 => 184 | 128 => 196 | 129 => 197 | 294 => 187 | 295 => 188 | 296 => 189 | 297 => 190 | 298 => 191 | 299 => 192 | 216 => 193 | 300 => 194 | 301 => 195 | 328 => 198 | 329 => 199 | 330 => 200 | 331 => 201 | 332 => 202 | 215 => 203 | 343 => 204 | n => n, fun | 28 => 34 | 3 => 3 | 46 => 229 | 0 => 0 | 51 => 205 | 53 => 61 | 4 => 4 | 183 => 248 | 182 => 247 | 131 => 252 | 5 => 5 | 9 => 9 | 218 => 256 | 222 => 260 | 228 => 262 | 229 => 201 | n => n, fun | n => n⟩
theorem Tryz.lays189 : Go.Proofs.Lays.n189 Tryz.prog Tryz.lays189_ren := {
  mixed := by kernel_rfl
  f125 := Tryz.func185.trans (congrArg some (by kernel_rfl))
  f128 := Tryz.func196.trans (congrArg some (by kernel_rfl))
  f129 := Tryz.func197.trans (congrArg some (by kernel_rfl))
  f189 := Tryz.func178.trans (congrArg some (by kernel_rfl))
  f215 := Tryz.func203.trans (congrArg some (by kernel_rfl))
  f216 := Tryz.func193.trans (congrArg some (by kernel_rfl))
  f257 := Tryz.func184.trans (congrArg some (by kernel_rfl))
  f294 := Tryz.func187.trans (congrArg some (by kernel_rfl))
  f295 := Tryz.func188.trans (congrArg some (by kernel_rfl))
  f296 := Tryz.func189.trans (congrArg some (by kernel_rfl))
  f297 := Tryz.func190.trans (congrArg some (by kernel_rfl))
  f298 := Tryz.func191.trans (congrArg some (by kernel_rfl))
  f299 := Tryz.func192.trans (congrArg some (by kernel_rfl))
  f300 := Tryz.func194.trans (congrArg some (by kernel_rfl))
  f301 := Tryz.func195.trans (congrArg some (by kernel_rfl))
  f328 := Tryz.func198.trans (congrArg some (by kernel_rfl))
  f329 := Tryz.func199.trans (congrArg some (by kernel_rfl))
  f330 := Tryz.func200.trans (congrArg some (by kernel_rfl))
  f331 := Tryz.func201.trans (congrArg some (by kernel_rfl))
  f332 := Tryz.func202.trans (congrArg some (by kernel_rfl))
  f343 := Tryz.func204.trans (congrArg some (by kernel_rfl))
  t0 := Tryz.underlying0
  a0 := Tryz.isAgg0
  z0 := Tryz.sizeOf0
  v0 := Tryz.zeroValue0
  t3 := Tryz.underlying3
  a3 := Tryz.isAgg3
  z3 := Tryz.sizeOf3
  v3 := Tryz.zeroValue3
  t4 := Tryz.underlying4
  a4 := Tryz.isAgg4
  z4 := Tryz.sizeOf4
  v4 := Tryz.zeroValue4
  t5 := Tryz.underlying5
  a5 := Tryz.isAgg5
  z5 := Tryz.sizeOf5
  v5 := Tryz.zeroValue5
  t9 := Tryz.underlying9
  a9 := Tryz.isAgg9
  z9 := Tryz.sizeOf9
  v9 := Tryz.zeroValue9
  t28 := Tryz.underlying34
  a28 := Tryz.isAgg34
  z28 := Tryz.sizeOf34
  v28 := Tryz.zeroValue34
  t46 := Tryz.underlying229
  a46 := Tryz.isAgg229
  z46 := Tryz.sizeOf229
  v46 := Tryz.zeroValue229
  t51 := Tryz.underlying205
  a51 := Tryz.isAgg205
  z51 := Tryz.sizeOf205
  v51 := Tryz.zeroValue205
  t53 := Tryz.underlying61
  a53 := Tryz.isAgg61
  z53 := Tryz.sizeOf61
  v53 := Tryz.zeroValue61
  t131 := Tryz.underlying252
  a131 := Tryz.isAgg252
  z131 := Tryz.sizeOf252
  v131 := Tryz.zeroValue252
  t182 := Tryz.underlying247
  a182 := Tryz.isAgg247
  z182 := Tryz.sizeOf247
  v182 := Tryz.zeroValue247
  t183 := Tryz.underlying248
  a183 := Tryz.isAgg248
  z183 := Tryz.sizeOf248
  v183 := Tryz.zeroValue248
  t218 := Tryz.underlying256
  a218 := Tryz.isAgg256
  z218 := Tryz.sizeOf256
  v218 := Tryz.zeroValue256
  t222 := Tryz.underlying260
  a222 := Tryz.isAgg260
  z222 := Tryz.sizeOf260
  v222 := Tryz.zeroValue260
  t228 := Tryz.underlying262
  a228 := Tryz.isAgg262
  z228 := Tryz.sizeOf262
  v228 := Tryz.zeroValue262
  t229 := Tryz.underlying201
  a229 := Tryz.isAgg201
  z229 := Tryz.sizeOf201
  v229 := Tryz.zeroValue201 }
open Go.Sort Go.RowKit in
theorem Tryz.slices_Sort_int (blk off cap : Nat) (zs : List Int) (w : World) (hH : Holds (Value.int .i64) w blk off zs.toArray) (hblk : blk < w.heap.size) (hsz : zs.length < 4611686018427387904) :
    Calls Tryz.prog 178 #[.slice (some ⟨blk, off, none⟩) zs.length cap] w fun e w' =>
      e = .returned (.tuple #[]) ∧ ∃ n os, w' = grow (putRow (Value.int .i64) (Sort.ahead w n) blk off (zs.mergeSort fun x y => decide (x ≤ y)).toArray) os := Any.slices_Sort_int Tryz.lays189 blk off cap zs w hH hblk hsz
def Tryz.lays212_ren : Go.Shelf.Ren := ⟨fun | 212 => 175 | 263 => 182 | 264 => 183 | n => n, fun | 46 => 229 | 51 => 205 | 146 => 238 | 53 => 61 | 148 => 240 | n => n, fun | n => n⟩
theorem Tryz.lays212 : Go.Proofs.Lays.n212 Tryz.prog Tryz.lays212_ren := {
  mixed := by kernel_rfl
  f212 := Tryz.func175.trans (congrArg some (by kernel_rfl))
  f263 := Tryz.func182.trans (congrArg some (by kernel_rfl))
  f264 := Tryz.func183.trans (congrArg some (by kernel_rfl))
  t46 := Tryz.underlying229
  a46 := Tryz.isAgg229
  z46 := Tryz.sizeOf229
  v46 := Tryz.zeroValue229
  t51 := Tryz.underlying205
  a51 := Tryz.isAgg205
  z51 := Tryz.sizeOf205
  v51 := Tryz.zeroValue205
  t53 := Tryz.underlying61
  a53 := Tryz.isAgg61
  z53 := Tryz.sizeOf61
  v53 := Tryz.zeroValue61
  t146 := Tryz.underlying238
  a146 := Tryz.isAgg238
  z146 := Tryz.sizeOf238
  v146 := Tryz.zeroValue238
  t148 := Tryz.underlying240
  a148 := Tryz.isAgg240
  z148 := Tryz.sizeOf240
  v148 := Tryz.zeroValue240 }
open Go.RowKit Go.Lib in
/-- math/bits.Mul: "Mul returns the full-width product of x and y": on a machine of 64 bits: Mul64's. (LAID: no walk: one application.) -/
theorem Tryz.bits_Mul (x y : Nat) (hx : x < 18446744073709551616) (hy : y < 18446744073709551616) (w : World) :
    Calls Tryz.prog 175 #[.int .u64 x, .int .u64 y] w fun e w' => e = .returned (.tuple #[.int .u64 ((x * y / 18446744073709551616 : Nat) : Int), .int .u64 ((x * y % 18446744073709551616 : Nat) : Int)]) ∧ w' = w := Any.bits_Mul Tryz.lays212 x y hx hy w
open Go.RowKit Go.Sort in
/-- .. and plain. (LAID: no walk: one application.) -/
theorem Tryz.slices_Sort_int_none (p : Option Addr) (cap : Nat) (w : World) :
    Calls Tryz.prog 178 #[.slice p 0 cap] w fun e w' => e = .returned (.tuple #[]) ∧ w' = w := Any.slices_Sort_int_none Tryz.lays189 p cap w
end Go.Proofs
set_option linter.unusedVariables false
set_option linter.unusedSimpArgs false
set_option linter.unnecessarySimpa false
namespace Go.Proofs.YtlklmpjakeedcaaGreatDoor
open Go.RowKit Go.MapKept Go.Sort

def sorted (zs : List Int) : List Int := zs.mergeSort fun x y => decide (x ≤ y)
theorem sorted_length (zs : List Int) : (sorted zs).length = zs.length := by simp [sorted]

theorem putCells_take (enc : Int → Value) (ds : List Int) (cur : Array Value) (h : ds.length ≤ cur.size) : (putCells enc 0 ds.toArray cur).toList.take ds.length = ds.map enc := by
  apply List.ext_getElem?
  intro i
  rw [List.getElem?_take]
  by_cases hi : i < ds.length
  · rw [if_pos hi]
    have hic : i < cur.size := by omega
    simp [putCells, hic, hi]
  · rw [if_neg hi, List.getElem?_eq_none (by simp; omega)]

/-- What a sort leaves. -/
theorem sort_row {w w' : World} {g n cap e : Nat} {zs : List Int} (h : w.ownsRow 0 e 1 (.slice (some ⟨g, 0, none⟩) n cap) n (zs.map (Value.int .i64))) (k : Nat) (os : Array Obj)
    (hw : w' = grow (putRow (Value.int .i64) (Sort.ahead w k) g 0 (sorted zs).toArray) os) :
    w'.ownsRow 0 e 1 (.slice (some ⟨g, 0, none⟩) n cap) n ((sorted zs).map (Value.int .i64)) ∧ Chg [g] w w' := by
  have hlen : zs.length = n := by have := h.1; simpa using this
  rcases h.2 with ⟨h0, _⟩ | ⟨g', cap', cur, hv, hb, hg, hn, hc, hs, ht⟩
  · cases h0
  · simp only [Value.slice.injEq, Option.some.injEq, Addr.mk.injEq] at hv
    obtain ⟨⟨rfl, _⟩, _, rfl⟩ := hv
    have hlt := lt_of_block hg
    have hput : (putRow (Value.int .i64) (Sort.ahead w k) g 0 (sorted zs).toArray).heap[g]? = some (.cells (putCells (Value.int .i64) 0 (sorted zs).toArray cur) e (0, 0)) := by
      have h1 : w.heap[g] = .cells cur e (0, 0) := by simpa [Array.getElem?_eq_getElem hlt] using hg
      show (w.heap.modify g _)[g]? = _
      rw [Array.getElem?_eq_getElem (by simpa using hlt), Array.getElem_modify_self, h1]
      rfl
    subst hw
    have hold : ∀ i, i < w.heap.size → (grow (putRow (Value.int .i64) (Sort.ahead w k) g 0 (sorted zs).toArray) os).heap[i]? = (putRow (Value.int .i64) (Sort.ahead w k) g 0 (sorted zs).toArray).heap[i]? := by
      intro i hi
      show (_ ++ os)[i]? = _
      rw [Array.getElem?_append_left (by simpa using hi)]
    refine ⟨⟨by simp [sorted_length, hlen], .inr ⟨g, cap, _, rfl, Nat.zero_le _, (hold g hlt).trans hput, hn, hc, by simp [putCells, hs], ?_⟩⟩, ⟨rfl, rfl, rfl, ?_, fun i hi hm => ?_⟩⟩
    · have := putCells_take (Value.int .i64) (sorted zs) cur (by rw [sorted_length]; omega)
      rw [sorted_length, hlen] at this
      simpa using this
    · show _ ≤ (_ ++ os).size
      simp [putRow, mapBlock, Sort.ahead]
    · rw [hold i hi]
      show (w.heap.modify g _)[i]? = _
      rw [Array.getElem?_modify, if_neg (fun e => hm (by simp [e]))]
theorem row_holds {w : World} {g n cap e : Nat} {zs : List Int} (h : w.ownsRow 0 e 1 (.slice (some ⟨g, 0, none⟩) n cap) n (zs.map (Value.int .i64))) : Holds (Value.int .i64) w g 0 zs.toArray := by
  intro j hj
  rcases h.2 with ⟨h0, _⟩ | ⟨g', cap', cur, hv, hb, hg, hn, hc, hs, ht⟩
  · cases h0
  · simp only [Value.slice.injEq, Option.some.injEq, Addr.mk.injEq] at hv
    obtain ⟨⟨rfl, _⟩, _, rfl⟩ := hv
    have hj' : j < zs.length := by simpa using hj
    refine ⟨?_, free_of_cells hg _⟩
    rw [cell_of_cells hg]
    have h1 : (zs.map (Value.int .i64))[j]? = some (.int .i64 zs[j]) := by simp [hj']
    rw [← ht, List.getElem?_take] at h1
    split at h1
    · simpa [hj'] using h1
    · cases h1
end Go.Proofs.YtlklmpjakeedcaaGreatDoor
set_option linter.unusedVariables false
set_option linter.unusedSimpArgs false
set_option linter.unnecessarySimpa false
namespace Go.Proofs.YtlklmpjakeedcaaGreatDoor
open Go.RowKit Go.MapKept Go.Shelf

theorem row_up {w : World} {B e size n : Nat} {v : Value} {xs : List Value} (h : w.ownsRow 0 e size v n xs) (hB : ∀ k, v.ownBlock = some k → B ≤ k) : w.ownsRow B e size v n xs := by
  refine ⟨h.1, ?_⟩
  rcases h.2 with h0 | ⟨g, cap, cur, h0, hb, h1⟩
  · exact .inl h0
  · exact .inr ⟨g, cap, cur, h0, hB g (by rw [h0]; rfl), h1⟩
/-- What a sort leaves of a row of numbers. -/
theorem sortIs_any (w : World) (B : Nat) (X : Is) (h : FreshInts B w X.1 X.2.1 X.2.2) (hn : X.2.2.length < 4611686018427387904) :
    Calls Tryz.prog 178 #[X.cell] w fun e w' => e = .returned (.tuple #[]) ∧ FreshInts B w' X.1 X.2.1 (sorted X.2.2) ∧ Chg X.own.toList w w' := by
  obtain ⟨a, c, zs⟩ := X
  have h0 : w.ownsRow 0 3 1 (.slice a zs.length c) zs.length (zs.map (Value.int .i64)) := row_base h (Nat.zero_le _)
  show Calls Tryz.prog 178 #[.slice a zs.length c] w _
  rcases h0.2 with ⟨hv, hl⟩ | ⟨g, cap, cur, hv, _⟩
  · have hz : zs = [] := List.eq_nil_of_length_eq_zero hl
    subst hz
    cases hv
    refine (Tryz.slices_Sort_int_none none 0 w).mono ?_
    rintro e w' ⟨rfl, rfl⟩
    exact ⟨rfl, by show FreshInts B _ none 0 (sorted []); simpa [sorted] using h, Chg.refl _ _⟩
  · simp only [Value.slice.injEq] at hv
    obtain ⟨rfl, _, rfl⟩ := hv
    refine (Tryz.slices_Sort_int g 0 c zs w (row_holds h0) (h0.lt g rfl).2 hn).mono ?_
    rintro e w' ⟨rfl, k, os, hw⟩
    have hs := sort_row h0 k os hw
    refine ⟨rfl, ?_, by simpa [Is.own, Is.cell, Value.ownBlock] using hs.2⟩
    show FreshInts B w' (some ⟨g, 0, none⟩) c (sorted zs)
    unfold FreshInts
    rw [sorted_length]
    exact row_up hs.1 (fun k hk => (row_beyond h (by exact hk)).1)
theorem Apt.grow {B : Nat} {w : World} {Y X X' : Is} (h : Apt Y X) (hY : FreshInts B w Y.1 Y.2.1 Y.2.2) (ho : X'.own = X.own ∨ ∃ k, X'.own = some k ∧ w.heap.size ≤ k) : Apt Y X' := fun k hk hk2 => by
  rcases ho with e | ⟨j, e, hj⟩
  · exact h k hk (by rw [← e]; exact hk2)
  · rw [e] at hk2
    have := (row_lt hY hk).2
    simp only [Option.some.injEq] at hk2
    omega
theorem Apt.own {Y Y' X : Is} (h : Apt Y X) (e : Y'.own = Y.own) : Apt Y' X := fun k hk => h k (by rw [← e]; exact hk)
theorem apt_none {Y X : Is} (h : X.own = none) : Apt Y X := fun k _ e => by rw [h] at e; cases e
section
variable {B : Nat} {w w' : World} {sb : Nat} {ga : Option Addr} {gn gc n : Nat} {A M K P : Is} {la : Option Addr} {lc : Nat} {VS : List Is} {s : Cp.TS}
/-- A row beside is changed. -/
theorem SearchIs.keepX (h : SearchIs B w sb ga gn gc n A M K P la lc VS s) {S : List Nat} (hc : Chg S w w') {X : Is} {B' : Nat} (hX : FreshInts B' w X.1 X.2.1 X.2.2) (hS : ∀ k ∈ S, X.own = some k) (xA : Apt A X) (xM : Apt M X) (xK : Apt K X) (xP : Apt P X) (xV : ∀ q ∈ VS, Apt q X) : SearchIs B w' sb ga gn gc n A M K P la lc VS s :=
  ⟨h.low, hc.heap h.head (fun hm => row_ne_search hX h.head (hS _ hm)), hc.row h.rA (fun k hk hm => xA k hk (hS k hm)), hc.row h.rM (fun k hk hm => xM k hk (hS k hm)), hc.row h.rK (fun k hk hm => xK k hk (hS k hm)), hc.row h.rP (fun k hk hm => xP k hk (hS k hm)),
   h.own.keepS hc (fun k hk => row_notrow hX (hS k hk) (by decide)) (fun k hk p hp e => xV p hp k e (hS k hk)), h.aAM, h.aAK, h.aAP, h.aMK, h.aMP, h.aKP, h.vA, h.vM, h.vK, h.vP, h.aside, h.met, h.back, h.part, h.parts⟩
end
/-- A search, and a row of numbers beside it. -/
def WithX (B : Nat) (w : World) (sb : Nat) (ga : Option Addr) (gn gc n : Nat) (s : Cp.TS) (X : Is) : Prop :=
  ∃ (A M K P : Is) (la : Option Addr) (lc : Nat) (VS : List Is), SearchIs B w sb ga gn gc n A M K P la lc VS s ∧ FreshInts B w X.1 X.2.1 X.2.2 ∧ Apt A X ∧ Apt M X ∧ Apt K X ∧ Apt P X ∧ ∀ q ∈ VS, Apt q X
end Go.Proofs.YtlklmpjakeedcaaGreatDoor
set_option linter.unusedVariables false
set_option linter.unusedSimpArgs false
set_option linter.unnecessarySimpa false
namespace Go.Proofs.YtlklmpjakeedcaaGreatDoor
open Go.RowKit Go.MapKept Go.Shelf

def rowI (zs : List Int) : Obj := .cells (zs.map (Value.int .i64)).toArray 3 (0, 0)
def rowN (n : Nat) : Obj := .cells (List.replicate n (Value.slice none 0 0)).toArray 34 (0, 0)
theorem run_ints (n : Nat) (hn : n ≤ 1000000) (w : World) : (Instr.makeSlice 34 (.int .i64 n) (.int .i64 n)).run Tryz.prog w = .ok (.slice (some ⟨w.heap.size, 0, none⟩) n n) (w.alloc (rowI (List.replicate n 0))) := by
  obtain ⟨i0, hi, hz0, hz1, hz2⟩ := info_parts Tryz.infoInt
  have h1 := run_make (P := Tryz.prog) w 34 3 i0 (.int .i64 0) Tryz.underlying34 hi hz0 .i64 .i64 n n (by omega) (by omega) (by rw [hz2]; omega) (by omega)
  rw [h1]
  simp only [Int.toNat_natCast, hz1, rowI]
  have : madeCells (Value.int .i64 0).cells (n * 1) = (List.map (Value.int .i64) (List.replicate n 0)).toArray := by
    apply Array.ext
    · simp [madeCells]
    · intro i h1 h2
      simp [madeCells, Value.cells, Nat.mod_one]
  rw [this]
theorem run_nils (n : Nat) (hn : n ≤ 1000000) (w : World) : (Instr.makeSlice 36 (.int .i64 n) (.int .i64 n)).run Tryz.prog w = .ok (.slice (some ⟨w.heap.size, 0, none⟩) n n) (w.alloc (rowN n)) := by
  obtain ⟨i0, hi, hz0, hz1, hz2⟩ := info_parts Tryz.infoInts
  have h1 := run_make (P := Tryz.prog) w 36 34 i0 (.slice none 0 0) Tryz.underlying36 hi hz0 .i64 .i64 n n (by omega) (by omega) (by rw [hz2]; omega) (by omega)
  rw [h1]
  simp only [Int.toNat_natCast, hz1, rowN]
  have : madeCells (Value.slice none 0 0).cells (n * 1) = (List.replicate n (Value.slice none 0 0)).toArray := by
    apply Array.ext
    · simp [madeCells]
    · intro i h1 h2
      simp [madeCells, Value.cells, Nat.mod_one]
  rw [this]
theorem rowI_fresh {B : Nat} {w : World} {g n : Nat} {zs : List Int} (h : w.heap[g]? = some (rowI zs)) (hB : B ≤ g) (hn : n = zs.length) (hm : n ≤ maxLen) : FreshInts B w (some ⟨g, 0, none⟩) n zs := by
  subst hn
  exact ⟨by simp, .inr ⟨g, zs.length, _, rfl, hB, h, Nat.le_refl _, hm, by simp, by rw [Nat.mul_one]; exact List.take_of_length_le (by simp)⟩⟩
theorem rowN_own {B : Nat} {w : World} {g n : Nat} (h : w.heap[g]? = some (rowN n)) (hB : B ≤ g) (hm : n ≤ maxLen) : w.ownsRow B 34 1 (.slice (some ⟨g, 0, none⟩) n n) n (List.replicate n (Value.slice none 0 0)) := by
  exact ⟨by simp, .inr ⟨g, n, _, rfl, hB, h, Nat.le_refl _, hm, by simp, by simp⟩⟩
/-- So many numbers of a row are copies of one, the others 0. -/
def repI (n k : Nat) (z : Int) : List Int := List.replicate k z ++ List.replicate (n - k) 0
theorem repI_len {n k : Nat} {z : Int} (h : k ≤ n) : (repI n k z).length = n := by simp [repI]; omega

theorem splice_rep {n k m : Nat} {z : Int} (h : k + m ≤ n) : splice ((repI n k z).map (Value.int .i64)) k (List.replicate m (Value.int .i64 z)) = (repI n (k + m) z).map (Value.int .i64) := by
  unfold splice repI
  simp only [List.map_append, List.map_replicate, List.length_replicate]
  rw [List.take_append_of_le_length (by simp), List.take_of_length_le (by simp), List.drop_append, List.drop_eq_nil_of_le (by simp), List.length_replicate, List.drop_replicate, List.nil_append, ← List.append_assoc, List.replicate_append_replicate]
  congr 2
  omega
theorem repI_zero (n : Nat) (z : Int) : repI n 0 z = List.replicate n 0 := by simp [repI]
theorem repI_all (n : Nat) (z : Int) : repI n n z = List.replicate n z := by simp [repI]
theorem repI_at {n k j : Nat} {z : Int} (h : j < k) : (repI n k z)[j]? = some z := by
  unfold repI
  rw [List.getElem?_append_left (by simpa using h), List.getElem?_replicate, if_pos h]

set_option maxRecDepth 100000 in
set_option maxHeartbeats 4000000 in
theorem repeat_any (w : World) (a : Addr) (c : Nat) (z : Int) (n : Nat) (hn : n ≤ 64) (hz : w.cell? a = some (.int .i64 z)) :
    Calls Tryz.prog 149 #[.slice (some a) 1 c, .int .i64 n] w fun e w' => ∃ g, e = .returned (.slice (some ⟨g, 0, none⟩) n n) ∧ w.heap.size ≤ g ∧ w'.heap[g]? = some (rowI (List.replicate n z)) ∧ Chg [] w w' := by
  have H := Lib.hid hz
  clear hz
  have hu : IntKind.u64.wrap (n : Int) = (n : Int) := by rw [IntKind.wrap_u64]; omega
  have hmk := fun W => run_ints n (by omega) W
  have hmul := Tryz.bits_Mul 1 n (by omega) (by omega) w
  rw [show 1 * n / 18446744073709551616 = 0 by omega, show 1 * n % 18446744073709551616 = n by omega] at hmul
  have HM := Lib.hid hmul
  have hi : IntKind.i64.wrap (n : Int) = (n : Int) := IntWalk.i64_in _ (by omega)
  clear hmul
  go_enter Tryz.func149, Tryz.ntmps149
  go_wp2_with fail
  refine HM.out.mono ?_
  rintro e w1 ⟨rfl, rfl⟩
  have hN := heap_alloc_same w1 (rowI (List.replicate n 0))
  have hcz := ((Chg.refl [] w1).alloc (rowI (List.replicate n 0)))
  have hz2 := hcz.cell H.out (by simp)
  have hcell1 : ∀ j v, (List.replicate (Nat.min 1 n) (Value.int .i64 z))[j]? = some v → (w1.alloc (rowI (List.replicate n 0))).cell? (a.add j) = some v := fun j v hj => by
    have hj0 : j < Nat.min 1 n := by
      rcases Nat.lt_or_ge j (Nat.min 1 n) with h | h
      · exact h
      · rw [List.getElem?_eq_none (by simpa using h)] at hj; cases hj
    have hj1 : j = 0 := by have : Nat.min 1 n ≤ 1 := Nat.min_le_left _ _; omega
    subst hj1
    rw [List.getElem?_replicate, if_pos hj0] at hj
    rw [show a.add 0 = a by simp [Addr.add], hz2, hj]
  have hfit0 : 0 + (List.replicate (Nat.min 1 n) (Value.int .i64 z)).length ≤ ((List.replicate n (0 : Int)).map (Value.int .i64)).length := by rw [List.length_replicate, List.length_map, List.length_replicate, Nat.zero_add]; exact Nat.min_le_right _ _
  have hone0 : ∀ v ∈ List.replicate (Nat.min 1 n) (Value.int .i64 z), v.oneCell' = true := fun v hv => by rw [List.eq_of_mem_replicate hv]; rfl
  have HN := Lib.hid (And.intro hN (And.intro hcz (And.intro hcell1 (And.intro hfit0 hone0))))
  clear hN hcz hz2 hcell1 hfit0 hone0
  go_wp2_with (show wpList _ _ _ _ _ _; refine wpList_copy_splice (o := ⟨some 33, _, _, _, _, _⟩) rfl _ _ 34 34 rfl 3 Tryz.underlying34 (by kernel_rfl) _ _ _ _ _ _ rfl rfl w1.heap.size 0 ((List.replicate n (0 : Int)).map (Value.int .i64)) 3 HN.out.1 (List.replicate (Nat.min 1 n) (Value.int .i64 z)) (List.length_replicate) (fun _ => ⟨rfl, a, rfl, HN.out.2.2.1⟩) HN.out.2.2.2.1 HN.out.2.2.2.2 w1.heap.size w1 (HN.out.2.1.below (Nat.le_refl _) (by simp)) (Nat.le_refl _) ?_; intro w2 HG2 hB2)
  obtain ⟨g, hg⟩ : ∃ g, g = w1.heap.size := ⟨_, rfl⟩
  rw [← hg]
  have hrow : w2.heap[g]? = some (rowI (repI n (Nat.min 1 n) z)) := by
    have := HG2.out
    rw [← repI_zero n z, splice_rep (by rw [Nat.zero_add]; exact Nat.min_le_right _ _), Nat.zero_add] at this
    rw [hg]; exact this
  have hle : Nat.min 1 n ≤ n := Nat.min_le_right _ _
  have hk0 : 0 < Nat.min 1 n ∨ n = 0 := by
    rcases Nat.eq_zero_or_pos n with e | e
    · exact .inr e
    · exact .inl (Nat.lt_min.2 ⟨by omega, e⟩)
  have H2 := Lib.hid (And.intro hrow (And.intro hk0 (And.intro (Chg.of_below hB2) hg)))
  obtain ⟨k1, hk1⟩ : ∃ k1, k1 = Nat.min 1 n := ⟨_, rfl⟩
  rw [← hk1] at H2 hle ⊢
  clear hrow hk0 hB2 HG2 hk1 hg hmk hu hi
  go_loopg [8] (n - k1) (fun d kv wr => ∃ k : Nat, d = n - k ∧ k ≤ n ∧ kv = .int .i64 k ∧ Hid (wr.heap[g]? = some (rowI (repI n k z)) ∧ (0 < k ∨ n = 0) ∧ Chg [] w1 wr))
  case atStart => exact ⟨k1, rfl, hle, rfl, Lib.hid ⟨H2.out.1, H2.out.2.1, H2.out.2.2.1⟩⟩
  case round =>
    obtain ⟨k, rfl, hk, rfl, hin⟩ := hrel
    obtain ⟨wq, rfl⟩ : ∃ wq, wq = wr := ⟨_, rfl⟩
    by_cases hlt : k < n
    · have hk0 : 0 < k := by have := hin.out.2.1; omega
      go_wp2_with fail
      have hsz1 : (Tryz.prog.info? 3).map (·.size) = some 1 := by kernel_rfl
      have hN : wq.drew.heap[g]? = some (rowI (repI n k z)) := hin.out.1
      obtain ⟨m, hm⟩ : ∃ m, m = Nat.min k (n - k) := ⟨_, rfl⟩
      have hmk : m ≤ k := by rw [hm]; exact Nat.min_le_left _ _
      have hmn : k + m ≤ n := by have : m ≤ n - k := by rw [hm]; exact Nat.min_le_right _ _
                                 omega
      have hm0 : 0 < m := by rw [hm]; exact Nat.lt_min.2 ⟨hk0, by omega⟩
      have hcells : ∀ j v, (List.replicate m (Value.int .i64 z))[j]? = some v → wq.drew.cell? ((⟨g, 0, none⟩ : Addr).add j) = some v := fun j v hj => by
        have hjm : j < m := by
          rcases Nat.lt_or_ge j m with h | h
          · exact h
          · rw [List.getElem?_eq_none (by simpa using h)] at hj; cases hj
        rw [List.getElem?_replicate, if_pos hjm] at hj
        rw [← hj, Addr.add_lit, Nat.zero_add, cell_of_cells hN]
        have := repI_at (n := n) (z := z) (show j < k by omega)
        simp [this]
      have hone : ∀ v ∈ List.replicate m (Value.int .i64 z), v.oneCell' = true := fun v hv => by rw [List.eq_of_mem_replicate hv]; rfl
      have hfit : k + (List.replicate m (Value.int .i64 z)).length ≤ ((repI n k z).map (Value.int .i64)).toArray.size := by rw [List.length_replicate, List.size_toArray, List.length_map, repI_len hk]; exact hmn
      have hwr : IntKind.i64.wrap ((k : Int) + (m : Int)) = ((k + m : Nat) : Int) := by rw [IntWalk.i64_in _ (by omega)]; omega
      have hwr2 : IntKind.i64.wrap ((k : Int) + (m : Int)) = (k : Int) + (m : Int) := IntWalk.i64_in _ (by omega)
      have hrun := run_copy_row (P := Tryz.prog) wq.drew 34 34 3 3 g k (n - k) (n - k) ⟨g, 0, none⟩ k n ((repI n k z).map (Value.int .i64)).toArray 3 (List.replicate m (Value.int .i64 z)) Tryz.underlying34 hsz1 hN ((List.length_replicate).trans hm) hcells hfit hone
      rw [List.length_replicate] at hrun
      obtain ⟨w3, hw3⟩ : ∃ w3, w3 = wq.drew.setRow g ((((repI n k z).map (Value.int .i64)).toArray.toList.take k ++ List.replicate m (Value.int .i64 z) ++ ((repI n k z).map (Value.int .i64)).toArray.toList.drop (k + m)).toArray) := ⟨_, rfl⟩
      have HN := Lib.hid (And.intro hN (And.intro hfit (And.intro hm (And.intro hmn (And.intro hm0 hw3)))))
      rw [← hw3] at hrun
      have hkn : ¬ k = n := by omega
      have hk00 : ¬ k = 0 := by omega
      have hnk : ¬ n = k := by omega
      clear hN hcells hone hfit hm hmn hmk hm0 hw3 hsz1 hwr
      go_region
      go_wp2_with fail
      have hrow : w3.heap[g]? = some (rowI (repI n (k + m) z)) := by
        obtain ⟨hN, -, -, hmn, -, hw3⟩ := HN.out
        have hs := setRow_heap wq.drew g (((repI n k z).map (Value.int .i64)).toArray) ((((repI n k z).map (Value.int .i64)).toArray.toList.take k ++ List.replicate m (Value.int .i64 z) ++ ((repI n k z).map (Value.int .i64)).toArray.toList.drop (k + m)).toArray) 3 (0, 0) hN
        rw [← hw3] at hs
        rw [hs]
        have hsp := splice_rep (n := n) (k := k) (m := m) (z := z) hmn
        unfold splice at hsp
        rw [List.length_replicate] at hsp
        unfold rowI
        rw [← hsp, List.append_assoc]
      have hch : Chg [] w1 w3 := by
        rw [HN.out.2.2.2.2.2]
        exact .of_below (below_setRow ((hin.out.2.2.drew).below (Nat.le_refl _) (by simp)) (by have := H2.out.2.2.2; omega) _)
      have HR := Lib.hid (And.intro hrow hch)
      clear hrow hch
      go_roundg (n - (k + m))
      case measure => have := HN.out.2.2.2; omega
      case rel => exact ⟨k + m, rfl, HN.out.2.2.2.1, by go_num, Lib.hid ⟨HR.out.1, .inl (by omega), HR.out.2⟩⟩
    · obtain rfl : k = n := by omega
      go_wp2_with fail
      go_ret
      have h1 := hin.out.1
      rw [repI_all] at h1
      exact ⟨g, rfl, by have := H2.out.2.2.2; omega, h1, hin.out.2.2⟩
end Go.Proofs.YtlklmpjakeedcaaGreatDoor
set_option linter.unusedVariables false
set_option linter.unusedSimpArgs false
set_option linter.unnecessarySimpa false
namespace Go.Proofs.YtlklmpjakeedcaaGreatDoor
open Go.RowKit Go.MapKept Go.Shelf

theorem Tryz.infoBools : (Tryz.prog.info? 108).map (fun i => (i.zero, i.size, i.bytes)) = some (some (.slice none 0 0), 1, 24) := by kernel_rfl
theorem rowB_putF {w : World} {g n i : Nat} {f : Nat → Bool} (h : w.heap[g]? = some (rowB ((List.range n).map f))) (v : Bool) : (w.setCell ⟨g, i, none⟩ (.bool v)).heap[g]? = some (rowB ((List.range n).map (Cp.upd f i v))) := by
  rw [rowB_set v h, Cp.set_range]
theorem rowB_getF {w : World} {g n i : Nat} {f : Nat → Bool} (h : w.heap[g]? = some (rowB ((List.range n).map f))) (hi : i < n) : w.cell? ⟨g, i, none⟩ = some (.bool (f i)) := rowB_cell h (by simp [hi])
def bCell (n : Nat) (g : Nat) : Value := .slice (some ⟨g, 0, none⟩) n n
structure MatB (w0 : World) (n k : Nat) (oa : Option Addr) (oc : Nat) (gs : List Nat) (f : Nat → Nat → Bool) (W : World) : Prop where
  chg : Chg [] w0 W
  len : gs.length = k
  nodup : gs.Nodup
  blk : ∀ i, (h : i < gs.length) → w0.heap.size ≤ gs[i] ∧ W.heap[gs[i]]? = some (rowB ((List.range n).map (f i)))
  row : W.ownsRow w0.heap.size 108 1 (.slice oa k oc) k (gs.map (bCell n))
section
variable {w0 W W' : World} {n k : Nat} {oa : Option Addr} {oc : Nat} {gs : List Nat} {f : Nat → Nat → Bool}
theorem MatB.nil (w0 : World) (n : Nat) (f : Nat → Nat → Bool) : MatB w0 n 0 none 0 [] f w0 := ⟨Chg.refl _ _, rfl, List.nodup_nil, fun i h => absurd h (Nat.not_lt_zero _), World.ownsRow_nil _ _ _ _⟩
theorem MatB.chg0 (h : MatB w0 n k oa oc gs f W) (hc : Chg [] W W') : MatB w0 n k oa oc gs f W' := ⟨h.chg.tr hc, h.len, h.nodup, fun i hi => ⟨(h.blk i hi).1, hc.heap (h.blk i hi).2 (by simp)⟩, hc.row h.row (fun _ _ => by simp)⟩
theorem MatB.congr (h : MatB w0 n k oa oc gs f W) {g : Nat → Nat → Bool} (hfg : ∀ i j, i < k → j < n → f i j = g i j) : MatB w0 n k oa oc gs g W :=
  ⟨h.chg, h.len, h.nodup, fun i hi => ⟨(h.blk i hi).1, by rw [(h.blk i hi).2]; congr 2; exact List.map_congr_left fun j hj => hfg i j (by have := h.len; omega) (List.mem_range.1 hj)⟩, h.row⟩
theorem MatB.read (h : MatB w0 n k oa oc gs f W) {i : Nat} (hi : i < k) : ∃ go g, oa = some ⟨go, 0, none⟩ ∧ gs[i]? = some g ∧ w0.heap.size ≤ go ∧ W.cell? ⟨go, i, none⟩ = some (.slice (some ⟨g, 0, none⟩) n n) ∧ k ≤ oc ∧ oc ≤ 9223372036854775807 ∧ w0.heap.size ≤ g ∧ W.heap[g]? = some (rowB ((List.range n).map (f i))) := by
  rcases h.row.2 with ⟨h0, h1⟩ | ⟨g, cap, cur, h0, hb, hg, hn, hc, hs, ht⟩
  · omega
  · simp only [Value.slice.injEq] at h0
    obtain ⟨rfl, -, rfl⟩ := h0
    have hig : i < gs.length := by rw [h.len]; exact hi
    obtain ⟨k1, k2⟩ := h.blk i hig
    refine ⟨g, gs[i], rfl, by simp [hig], hb, ?_, hn, by simpa only [maxLen] using hc, k1, k2⟩
    rw [(row_put h.row (i := i) (by omega)).1, List.getElem?_map, List.getElem?_eq_getElem hig]
    rfl
/-- A truth is written. -/
theorem MatB.put (h : MatB w0 n k oa oc gs f W) {i g : Nat} (hi : i < k) (hg : gs[i]? = some g) (j : Nat) (v : Bool) : MatB w0 n k oa oc gs (Cp.upd f i (Cp.upd (f i) j v)) (W.setCell ⟨g, j, none⟩ (.bool v)) ∧ Chg [g] W (W.setCell ⟨g, j, none⟩ (.bool v)) := by
  have hig : i < gs.length := by rw [h.len]; exact hi
  obtain rfl : gs[i] = g := by rw [List.getElem?_eq_getElem hig] at hg; simpa using hg
  have hc : Chg [gs[i]] W (W.setCell ⟨gs[i], j, none⟩ (.bool v)) := (Chg.refl [gs[i]] W).setCell (p := ⟨gs[i], j, none⟩) (.inl (by simp)) _
  refine ⟨⟨h.chg.trans hc (fun x hx => .inr (by rw [List.mem_singleton.1 hx]; exact (h.blk i hig).1)), h.len, h.nodup, fun q hq => ⟨(h.blk q hq).1, ?_⟩, hc.row h.row (fun x hx hm => ?_)⟩, hc⟩
  · by_cases e : q = i
    · subst e
      rw [Cp.upd_same]
      exact rowB_putF (h.blk q hq).2 v
    · rw [Cp.upd_other _ _ e]
      refine hc.heap (h.blk q hq).2 (fun hm => ?_)
      have e2 := List.mem_singleton.1 hm
      exact e ((List.getElem_inj h.nodup).1 e2)
  · rw [List.mem_singleton.1 hm] at hx
    exact ownsRow_ne h.row (h.blk i hig).2 (by decide) hx
end
end Go.Proofs.YtlklmpjakeedcaaGreatDoor

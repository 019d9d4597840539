/-
  The shelf's contracts at this seat, in plain words (the kit's lay-plain.mjs wrote it): slices.Sort at ints, bits.Mul.
  Conditions: none.
-/
import Derived.Shelf.Sort.Plain
import Derived.Shelf.Bits.Mul64
import Derived.Shelf.Slices.In.SortNone
import Derived.Test.YtlklmpjakeedcaaGreatDoorProg
import Derived.Test.YtlklmpjakeedcaaGreatDoorSOrBase
import Derived.Sort.Grow
import Derived.Sort.Row
import Derived.Test.YtlklmpjakeedcaaGreatDoorSOrCpE
set_option linter.unusedVariables false
set_option linter.unusedSimpArgs false
set_option linter.unnecessarySimpa false
namespace Go.Proofs
open Go.Shelf
def Tryz.lays189_ren : Go.Shelf.Ren := ⟨fun | 189 => 178 | 125 => 185 | 257 => 184 | 128 => 196 | 129 => 197 | 294 => 187 | 295 => 188 | 296 => 189 | 297 => 190 | 298 => 191 | 299 => 192 | 216 => 193 | 300 => 194 | 301 => 195 | 328 => 198 | 329 => 199 | 330 => 200 | 331 => 201 | 332 => 202 | 215 => 203 | 343 => 204 | n => n, fun | 28 => 34 | 3 => 3 | 46 => 229 | 0 => 0 | 51 => 205 | 53 => 61 | 4 => 4 | 183 => 248 | 182 => 247 | 131 => 252 | 5 => 5 | 9 => 9 | 218 => 256 | 222 => 260 | 228 => 262 | 229 => 201 | n => n, fun | n => n⟩
theorem Tryz.lays189 : Go.Proofs.Lays.n189 Tryz.prog Tryz.lays189_ren := {
  mixed := by kernel_rfl
  f125 := Tryz.func185.trans (congrArg some (by kernel_rfl))
  f128 := Tryz.func196.trans (congrArg some (by kernel_rfl))
  f129 := Tryz.func197.trans (congrArg some (by kernel_rfl))
  f189 := Tryz.func178.trans (congrArg some (by kernel_rfl))
  f215 := Tryz.func203.trans (congrArg some (by kernel_rfl))
  f216 := Tryz.func193.trans (congrArg some (by kernel_rfl))
  f257 := Tryz.func184.trans (congrArg some (by kernel_rfl))
  f294 := Tryz.func187.trans (congrArg some (by kernel_rfl))
  f295 := Tryz.func188.trans (congrArg some (by kernel_rfl))
  f296 := Tryz.func189.trans (congrArg some (by kernel_rfl))
  f297 := Tryz.func190.trans (congrArg some (by kernel_rfl))
  f298 := Tryz.func191.trans (congrArg some (by kernel_rfl))
  f299 := Tryz.func192.trans (congrArg some (by kernel_rfl))
  f300 := Tryz.func194.trans (congrArg some (by kernel_rfl))
  f301 := Tryz.func195.trans (congrArg some (by kernel_rfl))
  f328 := Tryz.func198.trans (congrArg some (by kernel_rfl))
  f329 := Tryz.func199.trans (congrArg some (by kernel_rfl))
  f330 := Tryz.func200.trans (congrArg some (by kernel_rfl))
  f331 := Tryz.func201.trans (congrArg some (by kernel_rfl))
  f332 := Tryz.func202.trans (congrArg some (by kernel_rfl))
  f343 := Tryz.func204.trans (congrArg some (by kernel_rfl))
  t0 := Tryz.underlying0
  a0 := Tryz.isAgg0
  z0 := Tryz.sizeOf0
  v0 := Tryz.zeroValue0
  t3 := Tryz.underlying3
  a3 := Tryz.isAgg3
  z3 := Tryz.sizeOf3
  v3 := Tryz.zeroValue3
  t4 := Tryz.underlying4
  a4 := Tryz.isAgg4
  z4 := Tryz.sizeOf4
  v4 := Tryz.zeroValue4
  t5 := Tryz.underlying5
  a5 := Tryz.isAgg5
  z5 := Tryz.sizeOf5
  v5 := Tryz.zeroValue5
  t9 := Tryz.underlying9
  a9 := Tryz.isAgg9
  z9 := Tryz.sizeOf9
  v9 := Tryz.zeroValue9
  t28 := Tryz.underlying34
  a28 := Tryz.isAgg34
  z28 := Tryz.sizeOf34
  v28 := Tryz.zeroValue34
  t46 := Tryz.underlying229
  a46 := Tryz.isAgg229
  z46 := Tryz.sizeOf229
  v46 := Tryz.zeroValue229
  t51 := Tryz.underlying205
  a51 := Tryz.isAgg205
  z51 := Tryz.sizeOf205
  v51 := Tryz.zeroValue205
  t53 := Tryz.underlying61
  a53 := Tryz.isAgg61
  z53 := Tryz.sizeOf61
  v53 := Tryz.zeroValue61
  t131 := Tryz.underlying252
  a131 := Tryz.isAgg252
  z131 := Tryz.sizeOf252
  v131 := Tryz.zeroValue252
  t182 := Tryz.underlying247
  a182 := Tryz.isAgg247
  z182 := Tryz.sizeOf247
  v182 := Tryz.zeroValue247
  t183 := Tryz.underlying248
  a183 := Tryz.isAgg248
  z183 := Tryz.sizeOf248
  v183 := Tryz.zeroValue248
  t218 := Tryz.underlying256
  a218 := Tryz.isAgg256
  z218 := Tryz.sizeOf256
  v218 := Tryz.zeroValue256
  t222 := Tryz.underlying260
  a222 := Tryz.isAgg260
  z222 := Tryz.sizeOf260
  v222 := Tryz.zeroValue260
  t228 := Tryz.underlying262
  a228 := Tryz.isAgg262
  z228 := Tryz.sizeOf262
  v228 := Tryz.zeroValue262
  t229 := Tryz.underlying201
  a229 := Tryz.isAgg201
  z229 := Tryz.sizeOf201
  v229 := Tryz.zeroValue201 }
open Go.Sort Go.RowKit in
theorem Tryz.slices_Sort_int (blk off cap : Nat) (zs : List Int) (w : World) (hH : Holds (Value.int .i64) w blk off zs.toArray) (hblk : blk < w.heap.size) (hsz : zs.length < 4611686018427387904) :
    Calls Tryz.prog 178 #[.slice (some ⟨blk, off, none⟩) zs.length cap] w fun e w' =>
      e = .returned (.tuple #[]) ∧ ∃ n os, w' = grow (putRow (Value.int .i64) (Sort.ahead w n) blk off (zs.mergeSort fun x y => decide (x ≤ y)).toArray) os := Any.slices_Sort_int Tryz.lays189 blk off cap zs w hH hblk hsz
def Tryz.lays264_ren : Go.Shelf.Ren := ⟨fun | 264 => 183 | n => n, fun | 53 => 61 | 46 => 229 | n => n, fun | n => n⟩
theorem Tryz.lays264 : Go.Proofs.Lays.n264 Tryz.prog Tryz.lays264_ren := {
  mixed := by kernel_rfl
  f264 := Tryz.func183.trans (congrArg some (by kernel_rfl))
  t46 := Tryz.underlying229
  a46 := Tryz.isAgg229
  z46 := Tryz.sizeOf229
  v46 := Tryz.zeroValue229
  t53 := Tryz.underlying61
  a53 := Tryz.isAgg61
  z53 := Tryz.sizeOf61
  v53 := Tryz.zeroValue61 }
open Go.RowKit Go.Lib in
theorem Tryz.bits_Mul64 (x y : Nat) (hx : x < 18446744073709551616) (hy : y < 18446744073709551616) (w : World) :
    Calls Tryz.prog 183 #[.int .u64 x, .int .u64 y] w fun e w' => e = .returned (.tuple #[.int .u64 ((x * y / 18446744073709551616 : Nat) : Int), .int .u64 ((x * y % 18446744073709551616 : Nat) : Int)]) ∧ w' = w := Any.bits_Mul64 Tryz.lays264 x y hx hy w
def Tryz.lays212_ren : Go.Shelf.Ren := ⟨fun | 212 => 175 | 263 => 182 | 264 => 183 | n => n, fun | 46 => 229 | 51 => 205 | 146 => 238 | 53 => 61 | 148 => 240 | n => n, fun | n => n⟩
theorem Tryz.lays212 : Go.Proofs.Lays.n212 Tryz.prog Tryz.lays212_ren := {
  mixed := by kernel_rfl
  f212 := Tryz.func175.trans (congrArg some (by kernel_rfl))
  f263 := Tryz.func182.trans (congrArg some (by kernel_rfl))
  f264 := Tryz.func183.trans (congrArg some (by kernel_rfl))
  t46 := Tryz.underlying229
  a46 := Tryz.isAgg229
  z46 := Tryz.sizeOf229
  v46 := Tryz.zeroValue229
  t51 := Tryz.underlying205
  a51 := Tryz.isAgg205
  z51 := Tryz.sizeOf205
  v51 := Tryz.zeroValue205
  t53 := Tryz.underlying61
  a53 := Tryz.isAgg61
  z53 := Tryz.sizeOf61
  v53 := Tryz.zeroValue61
  t146 := Tryz.underlying238
  a146 := Tryz.isAgg238
  z146 := Tryz.sizeOf238
  v146 := Tryz.zeroValue238
  t148 := Tryz.underlying240
  a148 := Tryz.isAgg240
  z148 := Tryz.sizeOf240
  v148 := Tryz.zeroValue240 }
open Go.RowKit Go.Lib in
/-- math/bits.Mul: "Mul returns the full-width product of x and y": on a machine of 64 bits: Mul64's. (LAID: no walk: one application.) -/
theorem Tryz.bits_Mul (x y : Nat) (hx : x < 18446744073709551616) (hy : y < 18446744073709551616) (w : World) :
    Calls Tryz.prog 175 #[.int .u64 x, .int .u64 y] w fun e w' => e = .returned (.tuple #[.int .u64 ((x * y / 18446744073709551616 : Nat) : Int), .int .u64 ((x * y % 18446744073709551616 : Nat) : Int)]) ∧ w' = w := Any.bits_Mul Tryz.lays212 x y hx hy w
open Go.RowKit Go.Sort in
/-- .. and plain. (LAID: no walk: one application.) -/
theorem Tryz.slices_Sort_int_none (p : Option Addr) (cap : Nat) (w : World) :
    Calls Tryz.prog 178 #[.slice p 0 cap] w fun e w' => e = .returned (.tuple #[]) ∧ w' = w := Any.slices_Sort_int_none Tryz.lays189 p cap w
end Go.Proofs
set_option linter.unusedVariables false
set_option linter.unusedSimpArgs false
set_option linter.unnecessarySimpa false
namespace Go.Proofs.YtlklmpjakeedcaaGreatDoor
open Go.RowKit Go.MapKept Go.Sort

def sorted (zs : List Int) : List Int := zs.mergeSort fun x y => decide (x ≤ y)
theorem sorted_length (zs : List Int) : (sorted zs).length = zs.length := by simp [sorted]

theorem putCells_take (enc : Int → Value) (ds : List Int) (cur : Array Value) (h : ds.length ≤ cur.size) : (putCells enc 0 ds.toArray cur).toList.take ds.length = ds.map enc := by
  apply List.ext_getElem?
  intro i
  rw [List.getElem?_take]
  by_cases hi : i < ds.length
  · rw [if_pos hi]
    have hic : i < cur.size := by omega
    simp [putCells, hic, hi]
  · rw [if_neg hi, List.getElem?_eq_none (by simp; omega)]

/-- What a sort leaves. -/
theorem sort_row {w w' : World} {g n cap e : Nat} {zs : List Int} (h : w.ownsRow 0 e 1 (.slice (some ⟨g, 0, none⟩) n cap) n (zs.map (Value.int .i64))) (k : Nat) (os : Array Obj)
    (hw : w' = grow (putRow (Value.int .i64) (Sort.ahead w k) g 0 (sorted zs).toArray) os) :
    w'.ownsRow 0 e 1 (.slice (some ⟨g, 0, none⟩) n cap) n ((sorted zs).map (Value.int .i64)) ∧ Chg [g] w w' := by
  have hlen : zs.length = n := by have := h.1; simpa using this
  rcases h.2 with ⟨h0, _⟩ | ⟨g', cap', cur, hv, hb, hg, hn, hc, hs, ht⟩
  · cases h0
  · simp only [Value.slice.injEq, Option.some.injEq, Addr.mk.injEq] at hv
    obtain ⟨⟨rfl, _⟩, _, rfl⟩ := hv
    have hlt := lt_of_block hg
    have hput : (putRow (Value.int .i64) (Sort.ahead w k) g 0 (sorted zs).toArray).heap[g]? = some (.cells (putCells (Value.int .i64) 0 (sorted zs).toArray cur) e (0, 0)) := by
      have h1 : w.heap[g] = .cells cur e (0, 0) := by simpa [Array.getElem?_eq_getElem hlt] using hg
      show (w.heap.modify g _)[g]? = _
      rw [Array.getElem?_eq_getElem (by simpa using hlt), Array.getElem_modify_self, h1]
      rfl
    subst hw
    have hold : ∀ i, i < w.heap.size → (grow (putRow (Value.int .i64) (Sort.ahead w k) g 0 (sorted zs).toArray) os).heap[i]? = (putRow (Value.int .i64) (Sort.ahead w k) g 0 (sorted zs).toArray).heap[i]? := by
      intro i hi
      show (_ ++ os)[i]? = _
      rw [Array.getElem?_append_left (by simpa using hi)]
    refine ⟨⟨by simp [sorted_length, hlen], .inr ⟨g, cap, _, rfl, Nat.zero_le _, (hold g hlt).trans hput, hn, hc, by simp [putCells, hs], ?_⟩⟩, ⟨rfl, rfl, rfl, ?_, fun i hi hm => ?_⟩⟩
    · have := putCells_take (Value.int .i64) (sorted zs) cur (by rw [sorted_length]; omega)
      rw [sorted_length, hlen] at this
      simpa using this
    · show _ ≤ (_ ++ os).size
      simp [putRow, mapBlock, Sort.ahead]
    · rw [hold i hi]
      show (w.heap.modify g _)[i]? = _
      rw [Array.getElem?_modify, if_neg (fun e => hm (by simp [e]))]
theorem row_holds {w : World} {g n cap e : Nat} {zs : List Int} (h : w.ownsRow 0 e 1 (.slice (some ⟨g, 0, none⟩) n cap) n (zs.map (Value.int .i64))) : Holds (Value.int .i64) w g 0 zs.toArray := by
  intro j hj
  rcases h.2 with ⟨h0, _⟩ | ⟨g', cap', cur, hv, hb, hg, hn, hc, hs, ht⟩
  · cases h0
  · simp only [Value.slice.injEq, Option.some.injEq, Addr.mk.injEq] at hv
    obtain ⟨⟨rfl, _⟩, _, rfl⟩ := hv
    have hj' : j < zs.length := by simpa using hj
    refine ⟨?_, free_of_cells hg _⟩
    rw [cell_of_cells hg]
    have h1 : (zs.map (Value.int .i64))[j]? = some (.int .i64 zs[j]) := by simp [hj']
    rw [← ht, List.getElem?_take] at h1
    split at h1
    · simpa [hj'] using h1
    · cases h1
end Go.Proofs.YtlklmpjakeedcaaGreatDoor
set_option linter.unusedVariables false
set_option linter.unusedSimpArgs false
set_option linter.unnecessarySimpa false
namespace Go.Proofs.YtlklmpjakeedcaaGreatDoor
open Go.RowKit Go.MapKept Go.Shelf

theorem row_up {w : World} {B e size n : Nat} {v : Value} {xs : List Value} (h : w.ownsRow 0 e size v n xs) (hB : ∀ k, v.ownBlock = some k → B ≤ k) : w.ownsRow B e size v n xs := by
  refine ⟨h.1, ?_⟩
  rcases h.2 with h0 | ⟨g, cap, cur, h0, hb, h1⟩
  · exact .inl h0
  · exact .inr ⟨g, cap, cur, h0, hB g (by rw [h0]; rfl), h1⟩
/-- What a sort leaves of a row of numbers. -/
theorem sortIs_any (w : World) (B : Nat) (X : Is) (h : FreshInts B w X.1 X.2.1 X.2.2) (hn : X.2.2.length < 4611686018427387904) :
    Calls Tryz.prog 178 #[X.cell] w fun e w' => e = .returned (.tuple #[]) ∧ FreshInts B w' X.1 X.2.1 (sorted X.2.2) ∧ Chg X.own.toList w w' := by
  obtain ⟨a, c, zs⟩ := X
  have h0 : w.ownsRow 0 3 1 (.slice a zs.length c) zs.length (zs.map (Value.int .i64)) := row_base h (Nat.zero_le _)
  show Calls Tryz.prog 178 #[.slice a zs.length c] w _
  rcases h0.2 with ⟨hv, hl⟩ | ⟨g, cap, cur, hv, _⟩
  · have hz : zs = [] := List.eq_nil_of_length_eq_zero hl
    subst hz
    cases hv
    refine (Tryz.slices_Sort_int_none none 0 w).mono ?_
    rintro e w' ⟨rfl, rfl⟩
    exact ⟨rfl, by show FreshInts B _ none 0 (sorted []); simpa [sorted] using h, Chg.refl _ _⟩
  · simp only [Value.slice.injEq] at hv
    obtain ⟨rfl, _, rfl⟩ := hv
    refine (Tryz.slices_Sort_int g 0 c zs w (row_holds h0) (h0.lt g rfl).2 hn).mono ?_
    rintro e w' ⟨rfl, k, os, hw⟩
    have hs := sort_row h0 k os hw
    refine ⟨rfl, ?_, by simpa [Is.own, Is.cell, Value.ownBlock] using hs.2⟩
    show FreshInts B w' (some ⟨g, 0, none⟩) c (sorted zs)
    unfold FreshInts
    rw [sorted_length]
    exact row_up hs.1 (fun k hk => (row_beyond h (by exact hk)).1)
theorem Apt.grow {B : Nat} {w : World} {Y X X' : Is} (h : Apt Y X) (hY : FreshInts B w Y.1 Y.2.1 Y.2.2) (ho : X'.own = X.own ∨ ∃ k, X'.own = some k ∧ w.heap.size ≤ k) : Apt Y X' := fun k hk hk2 => by
  rcases ho with e | ⟨j, e, hj⟩
  · exact h k hk (by rw [← e]; exact hk2)
  · rw [e] at hk2
    have := (row_lt hY hk).2
    simp only [Option.some.injEq] at hk2
    omega
theorem Apt.own {Y Y' X : Is} (h : Apt Y X) (e : Y'.own = Y.own) : Apt Y' X := fun k hk => h k (by rw [← e]; exact hk)
theorem apt_none {Y X : Is} (h : X.own = none) : Apt Y X := fun k _ e => by rw [h] at e; cases e
section
variable {B : Nat} {w w' : World} {sb : Nat} {ga : Option Addr} {gn gc n : Nat} {A M K P : Is} {la : Option Addr} {lc : Nat} {VS : List Is} {s : Cp.TS}
/-- A row beside is changed. -/
theorem SearchIs.keepX (h : SearchIs B w sb ga gn gc n A M K P la lc VS s) {S : List Nat} (hc : Chg S w w') {X : Is} {B' : Nat} (hX : FreshInts B' w X.1 X.2.1 X.2.2) (hS : ∀ k ∈ S, X.own = some k) (xA : Apt A X) (xM : Apt M X) (xK : Apt K X) (xP : Apt P X) (xV : ∀ q ∈ VS, Apt q X) : SearchIs B w' sb ga gn gc n A M K P la lc VS s :=
  ⟨h.low, hc.heap h.head (fun hm => row_ne_search hX h.head (hS _ hm)), hc.row h.rA (fun k hk hm => xA k hk (hS k hm)), hc.row h.rM (fun k hk hm => xM k hk (hS k hm)), hc.row h.rK (fun k hk hm => xK k hk (hS k hm)), hc.row h.rP (fun k hk hm => xP k hk (hS k hm)),
   h.own.keepS hc (fun k hk => row_notrow hX (hS k hk) (by decide)) (fun k hk p hp e => xV p hp k e (hS k hk)), h.aAM, h.aAK, h.aAP, h.aMK, h.aMP, h.aKP, h.vA, h.vM, h.vK, h.vP, h.aside, h.met, h.back, h.part, h.parts⟩
end
/-- A search, and a row of numbers beside it. -/
def WithX (B : Nat) (w : World) (sb : Nat) (ga : Option Addr) (gn gc n : Nat) (s : Cp.TS) (X : Is) : Prop :=
  ∃ (A M K P : Is) (la : Option Addr) (lc : Nat) (VS : List Is), SearchIs B w sb ga gn gc n A M K P la lc VS s ∧ FreshInts B w X.1 X.2.1 X.2.2 ∧ Apt A X ∧ Apt M X ∧ Apt K X ∧ Apt P X ∧ ∀ q ∈ VS, Apt q X
end Go.Proofs.YtlklmpjakeedcaaGreatDoor

/-
  The parts of a search in memory: read; put in another order.
  Conditions: none.
-/
import Derived.Test.YtplpboknmhgpiaaCEdCpO0
set_option linter.unusedVariables false
set_option linter.unusedSimpArgs false
set_option linter.unnecessarySimpa false
namespace Go.Proofs.Ytplpboknmhgpiaa
open Go.RowKit Go.MapKept Go.Shelf

def atV (VS : List Is) (p : Nat) : Is := VS.getD p (none, 0, [])
theorem atV_eq {VS : List Is} {p : Nat} (h : p < VS.length) : atV VS p = VS[p] := by simp [atV, h]
section
variable {B : Nat} {w w' : World} {sb : Nat} {ga : Option Addr} {gn gc n : Nat} {A M K P : Is} {la : Option Addr} {lc : Nat} {VS : List Is} {s : Cp.TS} {G : List (List Nat)}
theorem SearchIs.part_row (h : SearchIs B w sb ga gn gc n A M K P la lc VS s) {p : Nat} (hp : p < VS.length) : VS[p].2.2 = natI (s.parts.getD p []) := by
  have h1 : (VS.map (·.2.2))[p]? = (s.parts.map natI)[p]? := by rw [h.parts]
  have h2 : p < s.parts.length := by rw [← h.len]; exact hp
  have h3 : s.parts.getD p [] = s.parts[p] := by simp [h2]
  rw [h3]
  simpa [hp, h2] using h1
theorem SearchIs.part_at (h : SearchIs B w sb ga gn gc n A M K P la lc VS s) (hP : Cp.Parted G s.part s.parts) {p : Nat} (hp : p < VS.length) :
    ∃ gl g c k, la = some ⟨gl, 0, none⟩ ∧ w.cell? ⟨gl, p, none⟩ = some (.slice (some ⟨g, 0, none⟩) k c) ∧ VS[p].cell = .slice (some ⟨g, 0, none⟩) k c ∧ k = (s.parts.getD p []).length ∧ 0 < k ∧ k ≤ c ∧ c ≤ 9223372036854775807 ∧ w.cell? ⟨g, 0, none⟩ = some (.int .i64 (Cp.headO s.parts p : Nat)) ∧ FreshInts B w (some ⟨g, 0, none⟩) c (natI (s.parts.getD p [])) := by
  obtain ⟨gl, rfl, -, hc⟩ := h.own.at hp
  have hr := h.part_row hp
  have h2 : p < s.parts.length := by rw [← h.len]; exact hp
  have h3 : s.parts.getD p [] = s.parts[p] := by simp [h2]
  obtain ⟨a, ha, hpa⟩ := hP.some p h2
  have hmem : a ∈ s.parts.getD p [] := by rw [h3, hP.rows p h2]; simp [ha, hpa]
  have hrow := h.own.each _ (List.getElem_mem hp)
  obtain ⟨ra, rc, zs, hV⟩ : ∃ ra rc zs, VS[p] = (ra, rc, zs) := ⟨_, _, _, rfl⟩
  rw [hV] at hr hrow hc ⊢
  dsimp only at hr hrow
  subst hr
  obtain ⟨k, hk⟩ : ∃ k, k = (s.parts.getD p []).length := ⟨_, rfl⟩
  have hk0 : 0 < k := by rw [hk]; exact List.length_pos_of_mem hmem
  have hln : (natI (s.parts.getD p [])).length = k := by rw [natI_len, hk]
  have hrow' := hrow
  unfold FreshInts at hrow'
  rw [hln] at hrow'
  rcases hrow'.2 with ⟨h0, h1⟩ | ⟨g, cap, cur, h0, hb, hg, hn, hcm, hcs, ht⟩
  · omega
  · simp only [Value.slice.injEq] at h0
    obtain ⟨rfl, -, rfl⟩ := h0
    refine ⟨gl, g, rc, k, rfl, ?_, ?_, hk, hk0, hn, by simpa only [maxLen] using hcm, ?_, hrow⟩
    · rw [hc, Is.cell, hln]
    · rw [Is.cell, hln]
    · rw [(row_put hrow' (i := 0) (by omega)).1]
      cases he : s.parts.getD p [] with
      | nil => rw [he] at hmem; cases hmem
      | cons x l =>
        have : Cp.headO s.parts p = x := by unfold Cp.headO; rw [he]; rfl
        rw [this]; rfl
/-- The parts in another order. -/
theorem SearchIs.turnV (h : SearchIs B w sb ga gn gc n A M K P la lc VS s) {os : List Nat} {oa : Option Addr} {oc : Nat} (hlt : ∀ p ∈ os, p < VS.length) (hnd : os.Nodup) (hr : w.ownsRow B 26 1 (.slice oa os.length oc) os.length ((os.map (atV VS)).map Is.cell)) :
    SearchIs B (w.setCell ⟨sb, 5, none⟩ (.slice oa os.length oc)) sb ga gn gc n A M K P oa oc (os.map (atV VS)) { s with parts := os.map (fun p => s.parts.getD p []) } ∧ Chg [sb] w (w.setCell ⟨sb, 5, none⟩ (.slice oa os.length oc)) := by
  have hc : Chg [sb] w (w.setCell ⟨sb, 5, none⟩ (.slice oa os.length oc)) := (Chg.refl [sb] w).setCell (p := ⟨sb, 5, none⟩) (.inl (by simp)) _
  have hn : ∀ {X : Is}, FreshInts B w X.1 X.2.1 X.2.2 → FreshInts B (w.setCell ⟨sb, 5, none⟩ (.slice oa os.length oc)) X.1 X.2.1 X.2.2 := fun hX => hc.row hX (fun k hk hm => by rw [List.mem_singleton.1 hm] at hk; exact row_ne_search hX h.head hk)
  have hmem : ∀ q ∈ os.map (atV VS), q ∈ VS := fun q hq => by
    obtain ⟨p, hp, rfl⟩ := List.mem_map.1 hq
    rw [atV_eq (hlt p hp)]; exact List.getElem_mem _
  refine ⟨⟨h.low, ?_, hn h.rA, hn h.rM, hn h.rK, hn h.rP, ⟨?_, fun p hp => hn (h.own.each p (hmem p hp)), ?_⟩, h.aAM, h.aAK, h.aAP, h.aMK, h.aMP, h.aKP, fun q hq => h.vA q (hmem q hq), fun q hq => h.vM q (hmem q hq), fun q hq => h.vK q (hmem q hq), fun q hq => h.vP q (hmem q hq), h.aside, h.met, h.back, h.part, ?_⟩, hc⟩
  · rw [heap_setCell_same h.head 5, List.length_map]; rfl
  · rw [List.length_map]
    exact hc.row hr (fun k hk hm => by
      rw [List.mem_singleton.1 hm] at hk
      exact ownsRow_ne hr h.head (by decide) hk)
  · rw [List.pairwise_map]
    refine (List.nodup_iff_pairwise_ne.1 hnd).imp_of_mem fun {p q} hp hq hpq k hk hk2 => ?_
    rw [atV_eq (hlt p hp)] at hk
    rw [atV_eq (hlt q hq)] at hk2
    have hap := List.pairwise_iff_getElem.1 h.own.apart
    rcases Nat.lt_or_ge p q with hl | hge
    · exact hap p q (hlt p hp) (hlt q hq) hl k hk hk2
    · exact hap q p (hlt q hq) (hlt p hp) (by omega) k hk2 hk
  · rw [List.map_map, List.map_map]
    refine List.map_congr_left fun p hp => ?_
    show (atV VS p).2.2 = natI (s.parts.getD p [])
    rw [atV_eq (hlt p hp)]; exact h.part_row (hlt p hp)
theorem SearchIs.partF (h : SearchIs B w sb ga gn gc n A M K P la lc VS s) {f : Nat → Int} (hf : ∀ a, a < n → s.part a = f a) : SearchIs B w sb ga gn gc n A M K P la lc VS { s with part := f } :=
  ⟨h.low, h.head, h.rA, h.rM, h.rK, h.rP, h.own, h.aAM, h.aAK, h.aAP, h.aMK, h.aMP, h.aKP, h.vA, h.vM, h.vK, h.vP, h.aside, h.met, h.back, h.part.trans (List.map_congr_left fun a ha => hf a (List.mem_range.1 ha)), h.parts⟩
theorem SearchIs.stays (B' : Nat) : Stays B' fun W => SearchIs B W sb ga gn gc n A M K P la lc VS s :=
  ⟨fun h hc => h.chg0 hc, fun h ht => ⟨h.low, ht.heap h.head rfl, (Stays.row B' _ _ _ _ _ _).turn h.rA ht, (Stays.row B' _ _ _ _ _ _).turn h.rM ht, (Stays.row B' _ _ _ _ _ _).turn h.rK ht, (Stays.row B' _ _ _ _ _ _).turn h.rP ht, (OwnIs.stays B' _ _ _ _).turn h.own ht, h.aAM, h.aAK, h.aAP, h.aMK, h.aMP, h.aKP, h.vA, h.vM, h.vK, h.vP, h.aside, h.met, h.back, h.part, h.parts⟩⟩
end
end Go.Proofs.Ytplpboknmhgpiaa

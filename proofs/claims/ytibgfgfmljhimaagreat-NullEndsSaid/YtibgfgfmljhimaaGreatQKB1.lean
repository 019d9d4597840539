/-
  The kit: nodes, so many places further on, in memory of their own.
  Conditions: the nodes read as data; they are small.
-/
import Derived.Test.YtibgfgfmljhimaaGreatQGPut
import Derived.Test.YtibgfgfmljhimaaGreatQNu0
set_option linter.unusedVariables false
set_option linter.unusedSimpArgs false
namespace Go.Proofs.YtibgfgfmljhimaaGreat
open Go.RowKit Go.MapKept Go.Shelf

def Nd.part (x : Nd) (o : Int) (k : Nat) : Nd := { x with kids := (x.kids.take k).map (· + o) ++ x.kids.drop k }
theorem part_zero (x : Nd) (o : Int) : x.part o 0 = x := by simp [Nd.part]
theorem part_end (x : Nd) (o : Int) {k : Nat} (h : x.kids.length ≤ k) : x.part o k = x.shift o := by simp [Nd.part, Nd.shift, List.take_of_length_le h, List.drop_eq_nil_of_le h]
theorem part_len (x : Nd) (o : Int) (k : Nat) : (x.part o k).kids.length = x.kids.length := by simp [Nd.part]; omega
theorem part_at (x : Nd) (o : Int) {k : Nat} (hk : k < x.kids.length) (h : k < (x.part o k).kids.length) : (x.part o k).kids[k] = x.kids[k] := by
  simp only [Nd.part]
  rw [List.getElem_append_right (by simp; omega)]
  simp
  congr 1
  omega
theorem part_succ (x : Nd) (o : Int) {k : Nat} (hk : k < x.kids.length) : (x.part o k).setKid k (x.kids[k] + o) = x.part o (k + 1) := by
  simp only [Nd.part, Nd.setKid]
  congr 1
  apply List.ext_getElem?
  intro j
  rw [List.getElem?_set, List.getElem?_append, List.getElem?_append]
  simp only [List.length_append, List.length_map, List.length_take, List.length_drop, List.getElem?_map, List.getElem?_take, List.getElem?_drop]
  by_cases h1 : k = j
  · subst h1
    rw [if_pos rfl, if_pos (by omega), if_pos (by omega), if_pos (by omega), List.getElem?_eq_getElem hk]
    rfl
  · rw [if_neg h1]
    by_cases h2 : j < k
    · rw [if_pos (by omega), if_pos (by omega), if_pos (by omega), if_pos (by omega)]
    · rw [if_neg (by omega), if_neg (by omega)]
      congr 1
      omega
/-- Nodes ahead of i are moved, the i-th one's first k kids. -/
def MovedTo (ns : List Nd) (o : Int) (i k : Nat) (L : List Cp) : Prop :=
  L.length = ns.length ∧ ∀ a (h : a < L.length) (h' : a < ns.length), L[a].1 = if a < i then ns[a].shift o else if a = i then ns[a].part o k else ns[a]
theorem movedTo_start {ns : List Nd} {o : Int} {L : List Cp} (h : L.map (·.1) = ns) : MovedTo ns o 0 0 L := by
  refine ⟨by rw [← h]; simp, fun a h1 h2 => ?_⟩
  have : L[a].1 = ns[a] := by
    have h3 : (L.map (·.1))[a]'(by simpa using h1) = L[a].1 := by simp
    rw [← h3]
    simp only [h]
  rw [this, if_neg (by omega)]
  split
  · rw [part_zero]
  · rfl
theorem movedTo_next {ns : List Nd} {o : Int} {i k : Nat} {L : List Cp} (hi : i < ns.length) (h : MovedTo ns o i k L) (hk : ns[i].kids.length ≤ k) : MovedTo ns o (i + 1) 0 L := by
  refine ⟨h.1, fun a h1 h2 => ?_⟩
  rw [h.2 a h1 h2]
  by_cases h3 : a < i
  · rw [if_pos h3, if_pos (by omega)]
  · rw [if_neg h3]
    by_cases h4 : a = i
    · subst h4
      rw [if_pos rfl, if_pos (by omega), part_end _ _ hk]
    · rw [if_neg h4, if_neg (by omega)]
      split
      · rw [part_zero]
      · rfl
theorem movedTo_kid {ns : List Nd} {o : Int} {i k : Nat} {L : List Cp} (hi : i < ns.length) (hL : i < L.length) (h : MovedTo ns o i k L) (hk : k < ns[i].kids.length) : MovedTo ns o i (k + 1) (L.set i (L[i].setKid k (ns[i].kids[k] + o))) := by
  refine ⟨by rw [List.length_set]; exact h.1, fun a h1 h2 => ?_⟩
  rw [List.getElem_set]
  by_cases h3 : i = a
  · subst h3
    rw [if_pos rfl, if_neg (by omega), if_pos rfl]
    show L[i].1.setKid k _ = _
    have := h.2 i hL hi
    rw [if_neg (by omega), if_pos rfl] at this
    rw [this]
    exact part_succ _ _ hk
  · have h1' : a < L.length := by simpa using h1
    rw [if_neg h3, h.2 a h1' h2]
    by_cases h4 : a < i
    · rw [if_pos h4, if_pos h4]
    · rw [if_neg h4, if_neg h4, if_neg (by omega), if_neg (by omega)]
theorem movedTo_end {ns : List Nd} {o : Int} {k : Nat} {L : List Cp} (h : MovedTo ns o ns.length k L) : L.map (·.1) = movedL ns o := by
  apply List.ext_getElem
  · simp [movedL, h.1]
  · intro a h1 h2
    have h1' : a < L.length := by simpa using h1
    have := h.2 a h1' (by have := h.1; omega)
    rw [if_pos (by have := h.1; omega)] at this
    simp [movedL, this]
theorem movedTo_now {ns : List Nd} {o : Int} {i k : Nat} {L : List Cp} (hi : i < ns.length) (hL : i < L.length) (h : MovedTo ns o i k L) : L[i].1 = ns[i].part o k := by
  have := h.2 i hL hi
  rw [if_neg (by omega), if_pos rfl] at this
  exact this

/-- Nodes in rows of their own. -/
def NewRows (w : World) (ns : List Nd) (e : Ending) (w' : World) : Prop :=
  ∃ a c L, e = .returned (.slice a ns.length c) ∧ L.map (·.1) = ns ∧ OwnN w.heap.size w' a c L ∧ Chg [] w w'

set_option maxRecDepth 100000 in
set_option maxHeartbeats 4000000 in
theorem moved_any (w : World) (a : Option Addr) (n c : Nat) (ns : List Nd) (o : Int) (hn : n = ns.length) (hs : n ≤ 3000) (hr : Nodes w a ns) (hk : ∀ x ∈ ns, x.kids.length ≤ 3000) (ho : ∀ x ∈ ns, ∀ z ∈ x.kids, I64 (z + o)) :
    Calls Tryz.prog 51 #[.slice a n c, .int .i64 o] w (NewRows w (movedL ns o)) := by
  have H := Lib.hid (And.intro hn (And.intro hr (And.intro hk ho)))
  clear hn hr hk ho
  go_enter Tryz.func51, Tryz.ntmps51
  go_wp2_with fail
  refine (CopyNodesF_any w a n c ns H.out.1 hs H.out.2.1 H.out.2.2.1).mono ?_
  rintro e w1 ⟨b, d, L1, rfl, hL1, hown1, hc1⟩
  obtain ⟨m, hm⟩ : ∃ m, m = ns.length := ⟨_, rfl⟩
  rw [← hm]
  have H1 := Lib.hid (And.intro hL1 (And.intro hown1.ownN (And.intro hc1 hm)))
  have hm3 : m ≤ 3000 := by have := H.out.1; omega
  clear hL1 hown1 hc1 hm
  go_wp2_with fail
  go_loopg [6] m (fun dd iv wr => ∃ i : Nat, dd = m - i ∧ i ≤ m ∧ iv = .int .i64 i ∧ Hid (∃ L, MovedTo ns o i 0 L ∧ OwnN w.heap.size wr b d L ∧ Chg [] w wr))
  case atStart => exact ⟨0, rfl, Nat.zero_le _, rfl, Lib.hid ⟨L1, movedTo_start H1.out.1, H1.out.2.1, H1.out.2.2.1⟩⟩
  case round =>
    obtain ⟨i, rfl, hi, rfl, hin⟩ := hrel
    obtain ⟨wq, rfl⟩ : ∃ wq, wq = wr := ⟨_, rfl⟩
    by_cases hlt : i < m
    · have hil : i < ns.length := by have := H1.out.2.2.2; omega
      obtain ⟨kl, hkl⟩ : ∃ kl, kl = ns[i].kids.length := ⟨_, rfl⟩
      have hk3 : kl ≤ 3000 := by rw [hkl]; exact H.out.2.2.1 _ (List.getElem_mem hil)
      have HK := Lib.hid (⟨hil, hkl⟩ : ∃ h : i < ns.length, kl = ns[i].kids.length)
      clear hil hkl
      go_wp2_with fail
      go_loopg [7] kl (fun dd iv wr => ∃ k : Nat, dd = kl - k ∧ k ≤ kl ∧ iv = .int .i64 k ∧ Hid (∃ L, MovedTo ns o i k L ∧ OwnN w.heap.size wr b d L ∧ Chg [] w wr))
      case atStart => exact ⟨0, rfl, Nat.zero_le _, rfl, hin⟩
      case round =>
        obtain ⟨k, rfl, hkk, rfl, hin2⟩ := hrel
        obtain ⟨wr, rfl⟩ : ∃ wz, wz = wr := ⟨_, rfl⟩
        obtain ⟨L, hmv, hown, hcw⟩ := hin2.out
        obtain ⟨hil, hkq⟩ := HK.out
        have hiL : i < L.length := by have := hmv.1; omega
        have hnow := movedTo_now hil hiL hmv
        have hlen : L[i].1.kids.length = kl := by rw [hnow, part_len, ← hkq]
        obtain ⟨G, rfl, hBG, _, hcells, _⟩ := hown.at hiL
        have h8 : wr.cell? ⟨G, i * 9 + 8, none⟩ = some (.slice L[i].2.1 kl L[i].2.2) := by
          rw [hcells 8 (by decide), ← hlen]; rfl
        have hG := World.block_lt_of_cell? _ _ h8
        simp only at hG
        by_cases hkl : k < kl
        · have hkx : k < ns[i].kids.length := by omega
          obtain ⟨K, hK, hBK, hck, hfk, hput⟩ := hown.kidPut hiL (k := k) (by rw [hlen]; exact hkl)
          have hv : L[i].1.kids[k]'(by rw [hlen]; exact hkl) = ns[i].kids[k] := by
            have := part_at ns[i] o hkx (by rw [part_len]; exact hkx)
            simp only [hnow]
            exact this
          rw [hv] at hck
          rw [hK] at h8
          obtain ⟨z, hz⟩ : ∃ z, z = ns[i].kids[k] := ⟨_, rfl⟩
          have hzo : I64 (z + o) := by rw [hz]; exact H.out.2.2.2 _ (List.getElem_mem hil) _ (List.getElem_mem hkx)
          obtain ⟨hz1, hz2⟩ := hzo
          rw [← hz] at hck
          have hput2 : ∃ L', MovedTo ns o i (k + 1) L' ∧ OwnN w.heap.size (wr.setCell ⟨K, k, none⟩ (.int .i64 (z + o))) (some ⟨G, 0, none⟩) d L' ∧ Chg [] w (wr.setCell ⟨K, k, none⟩ (.int .i64 (z + o))) := by
            obtain ⟨p1, p2⟩ := hput (z + o)
            refine ⟨_, ?_, p1, hcw.trans p2 (fun j hj => .inr (by simp at hj; omega))⟩
            rw [hz]
            exact movedTo_kid hil hiL hmv hkx
          have HR := Lib.hid hput2
          obtain ⟨lc, hlc⟩ : ∃ lc, lc = L[i].2.2 := ⟨_, rfl⟩
          rw [← hlc] at h8
          clear hmv hcw hput hput2 hz hkq hkx hiL hnow hlen hcells hv hK hlc hown hBK hil
          go_wp2_with fail
          go_region
          all_goals go_wp2_with fail
          all_goals go_roundg (kl - (k + 1))
          case measure => omega
          case rel =>
            obtain ⟨L', q1, q2, q3⟩ := HR.out
            exact ⟨k + 1, rfl, by omega, by go_num, Lib.hid ⟨L', q1, q2.chg0 ((Chg.refl [] _).drew), q3.drew⟩⟩
        · obtain rfl : k = kl := by omega
          have HR := Lib.hid (And.intro hmv (And.intro hcw hown))
          obtain ⟨lc, hlc⟩ : ∃ lc, lc = L[i].2.2 := ⟨_, rfl⟩
          obtain ⟨la, hla⟩ : ∃ la, la = L[i].2.1 := ⟨_, rfl⟩
          rw [← hlc, ← hla] at h8
          clear hmv hcw hnow hlen hcells hlc hla hown hkq hil hiL
          go_wp2_with fail
          go_roundg (m - (i + 1))
          case measure => omega
          case rel =>
            obtain ⟨hmv, hcw, hown⟩ := HR.out
            exact ⟨i + 1, rfl, by omega, by go_num, Lib.hid ⟨L, movedTo_next (HK.out.elim fun h _ => h) hmv (by obtain ⟨_, h⟩ := HK.out; omega), hown, hcw⟩⟩
    · obtain rfl : i = m := by omega
      go_wp2_with fail
      go_ret
      obtain ⟨L, hmv, hown, hcw⟩ := hin.out
      rw [H1.out.2.2.2] at hmv
      refine ⟨b, d, L, ?_, movedTo_end hmv, hown, hcw⟩
      rw [movedL_len, ← H1.out.2.2.2]; rfl
end Go.Proofs.YtibgfgfmljhimaaGreat

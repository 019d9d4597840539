/-
  Names: the walks of the program's test and of the document's.
  Conditions: the text is no longer than a slice can be.
-/
import Derived.Test.YtlklmpjakeedcaaGreatDoorSEnGName
import Derived.Lib.Strings
import Derived.Test.YtlklmpjakeedcaaGreatDoorSEnGNode
import Derived.Test.YtlklmpjakeedcaaGreatDoorSEnNuB
set_option linter.unusedVariables false
set_option linter.unusedSimpArgs false
namespace Go.Proofs.YtlklmpjakeedcaaGreatDoor
open Go.RowKit Go.MapKept Go.Proofs Go.Lib

theorem nameB_iff (s : ByteArray) : nameB s = true ↔ 1 ≤ s.size ∧ s.size ≤ 32 ∧ ∀ j (h : j < s.size), (letterB s[j] || (decide (j ≠ 0) && digitB s[j])) = true := by
  by_cases h0 : s.size = 0
  · rw [name_empty h0]
    exact ⟨fun h => (by cases h), fun h => (by omega)⟩
  · have hl : s.data.toList.length = s.size := by first | (simp; done) | (simp; rfl)
    unfold nameB
    cases hd : s.data.toList with
    | nil => rw [hd] at hl; simp at hl; omega
    | cons c r =>
      have hg : ∀ j (hj : j < s.size), s[j] = (c :: r)[j]'(by rw [← hd, hl]; exact hj) := by
        intro j hj
        have : s[j] = s.data[j] := rfl
        rw [this, ← Array.getElem_toList]
        simp only [hd]
      rw [hd] at hl
      simp only [List.length_cons] at hl
      simp only [nameL, Bool.and_eq_true, decide_eq_true_eq, List.all_eq_true]
      constructor
      · rintro ⟨⟨h1, h2⟩, h3⟩
        refine ⟨by omega, by omega, fun j hj => ?_⟩
        rw [hg j hj]
        cases j with
        | zero => simp [h1]
        | succ j => simpa using h2 _ (List.getElem_mem (by first | omega | (simp; omega)))
      · rintro ⟨h1, h2, h3⟩
        refine ⟨⟨?_, fun x hx => ?_⟩, by omega⟩
        · have := h3 0 (by omega)
          rw [hg 0 (by omega)] at this
          simpa using this
        · obtain ⟨j, hj, rfl⟩ := List.mem_iff_getElem.1 hx
          have := h3 (j + 1) (by omega)
          rw [hg _ (by omega)] at this
          simpa using this
def okAt (s : ByteArray) (j : Nat) (h : j < s.size) : Bool := letterB s[j] || (decide (j ≠ 0) && digitB s[j])
theorem okAt_eq (s : ByteArray) (k : Nat) (h : k < s.size) : okAt s k h = decide (((97 ≤ s[k].toNat ∧ s[k].toNat ≤ 122) ∨ (65 ≤ s[k].toNat ∧ s[k].toNat ≤ 90) ∨ s[k].toNat = 95) ∨ (k ≠ 0 ∧ 48 ≤ s[k].toNat ∧ s[k].toNat ≤ 57)) := by
  unfold okAt
  rw [letterB_R, digitB_R]
  unfold letR
  rw [Bool.eq_iff_iff]
  simp only [Bool.or_eq_true, Bool.and_eq_true, decide_eq_true_eq]
  omega
theorem name_bad {s : ByteArray} {k : Nat} {h : k < s.size} (hb : okAt s k h = false) : false = nameB s := by
  cases hn : nameB s with
  | false => rfl
  | true => have := ((nameB_iff s).1 hn).2.2 k h; unfold okAt at hb; rw [hb] at this; cases this

set_option maxRecDepth 100000 in
set_option maxHeartbeats 1000000 in
theorem refName_any (s : ByteArray) (w : World) (hs : s.size ≤ maxLen) : Calls Tryz.prog 161 #[.string s] w fun e w' => e = .returned (.bool (nameB s)) ∧ Chg [] w w' := by
  unfold maxLen at hs
  go_enter Tryz.func161, Tryz.ntmps161
  go_wp2_with fail
  go_loop [3] (fun iv => ∃ k : Nat, k ≤ s.size ∧ iv = .int .i64 k ∧ Hid (∀ j (h : j < s.size), j < k → okAt s j h = true)) (fun iv => s.size - (intOf iv).toNat)
  case atStart => exact ⟨0, Nat.zero_le _, rfl, Lib.hid (fun j _ h => by omega)⟩
  case round =>
    obtain ⟨k, hk, rfl, hb⟩ := hrel
    by_cases hlt : k < s.size
    · have hx := s[k].toNat_lt
      have HK := Lib.hid (okAt_eq s k hlt)
      have hcase : s[k].toNat < 48 ∨ (48 ≤ s[k].toNat ∧ s[k].toNat ≤ 57 ∧ k = 0) ∨ (48 ≤ s[k].toNat ∧ s[k].toNat ≤ 57 ∧ 0 < k) ∨ (57 < s[k].toNat ∧ s[k].toNat < 65) ∨ (65 ≤ s[k].toNat ∧ s[k].toNat ≤ 90) ∨ (90 < s[k].toNat ∧ s[k].toNat < 95) ∨ s[k].toNat = 95 ∨ (95 < s[k].toNat ∧ s[k].toNat < 97) ∨ (97 ≤ s[k].toNat ∧ s[k].toNat ≤ 122) ∨ 122 < s[k].toNat := by omega
      have hk0 : ((k : Int) == 0) = decide (k = 0) := by
        rw [Bool.eq_iff_iff]; simp
      have h95 : (((s[k].toNat : Int)) == 95) = decide (s[k].toNat = 95) := by
        rw [Bool.eq_iff_iff]; simp; omega
      have q122 : decide ((s[k].toNat : Int) ≤ 122) = decide (s[k].toNat ≤ 122) := by rw [Bool.eq_iff_iff]; simp; omega
      have q48 : decide ((s[k].toNat : Int) < 48) = decide (s[k].toNat < 48) := by rw [Bool.eq_iff_iff]; simp; omega
      have q57 : decide (57 < (s[k].toNat : Int)) = decide (57 < s[k].toNat) := by rw [Bool.eq_iff_iff]; simp; omega
      have q90 : decide ((s[k].toNat : Int) ≤ 90) = decide (s[k].toNat ≤ 90) := by rw [Bool.eq_iff_iff]; simp; omega
      rcases hcase with h | ⟨h, h', h''⟩ | ⟨h, h', h''⟩ | ⟨h, h'⟩ | ⟨h, h'⟩ | ⟨h, h'⟩ | h | ⟨h, h'⟩ | ⟨h, h'⟩ | h
      all_goals
        first
        | (rw [show decide (s[k].toNat = 95) = false from by simp; omega] at h95)
        | (rw [show decide (s[k].toNat = 95) = true from by simp; omega] at h95)
        | skip
      all_goals
        first
        | (rw [show decide (s[k].toNat < 48) = false from by simp; omega] at q48)
        | (rw [show decide (s[k].toNat < 48) = true from by simp; omega] at q48)
      all_goals
        first
        | (rw [show decide (57 < s[k].toNat) = false from by simp; omega] at q57)
        | (rw [show decide (57 < s[k].toNat) = true from by simp; omega] at q57)
      all_goals
        first
        | (rw [show decide (s[k].toNat ≤ 122) = false from by simp; omega] at q122)
        | (rw [show decide (s[k].toNat ≤ 122) = true from by simp; omega] at q122)
      all_goals
        first
        | (rw [show decide (s[k].toNat ≤ 90) = false from by simp; omega] at q90)
        | (rw [show decide (s[k].toNat ≤ 90) = true from by simp; omega] at q90)
      all_goals
        first
        | (rw [show decide (k = 0) = false from by simp; omega] at hk0)
        | (rw [show decide (k = 0) = true from by simp; omega] at hk0)
        | skip
      all_goals try (have H00 := Lib.hid h''; clear h'')
      all_goals
        go_wp2
        all_goals first
        | (go_ret
           exact ⟨ret_bool (name_bad (k := k) (h := hlt) (by rw [HK.out]; simp; first | omega | (have := H00.out; omega))), Chg.refl _ _⟩)
        | (go_round
           case rel => exact ⟨k + 1, by omega, by go_num, Lib.hid (fun j hh hj => by
             by_cases e : j = k
             · subst e; rw [HK.out]; simp; first | omega | (have := H00.out; omega)
             · exact hb.out j hh (by omega))⟩
           case measure => simp [intOf]; omega)
        | (go_ret
           exact ⟨ret_bool (name_bad (k := k) (h := hlt) (by rw [HK.out]; simp; first | omega | (have := H00.out; omega))), Chg.refl _ _⟩)
    · obtain rfl : k = s.size := by omega
      go_wp2
      all_goals go_ret
      all_goals refine ⟨ret_bool ?_, Chg.refl _ _⟩
      all_goals have hall := hb.out
      all_goals rw [Bool.eq_iff_iff, nameB_iff]
      all_goals constructor
      all_goals intro h
      all_goals first
        | (simp at h; exact ⟨by omega, by omega, fun j hj => hall j hj hj⟩)
        | (obtain ⟨h1, h2, _⟩ := h; simp; omega)
        | (obtain ⟨h1, h2, _⟩ := h; exfalso; omega)
        | (cases h)
end Go.Proofs.YtlklmpjakeedcaaGreatDoor
set_option linter.unusedVariables false
set_option linter.unusedSimpArgs false
namespace Go.Proofs.YtlklmpjakeedcaaGreatDoor
open Go.RowKit Go.MapKept

theorem toList_nil_iff (s : ByteArray) : s.toList = [] ↔ s.size = 0 := by
  rw [Lib.toList_data]
  constructor
  · intro h
    have := congrArg List.length h
    simpa using this
  · intro h
    exact List.eq_nil_of_length_eq_zero (by simpa using h)
theorem toList_none : (⟨#[]⟩ : ByteArray).toList = [] := (toList_nil_iff _).2 rfl
theorem size_pos_iff (s : ByteArray) : 0 < s.size ↔ ¬ s.toList = [] := by rw [toList_nil_iff]; omega
theorem nodeN_or {k c0 c1 c2 c3 r l q : Int} {s : ByteArray} {n : Nat} : nodeN k c0 c1 c2 c3 r l q s n =
    if k = 1 ∨ k = 2 then decide ((c0 = 0 ∧ c1 = 0 ∧ c2 = 0 ∧ c3 = 0) ∧ s.toList = [] ∧ r = 0 ∧ l = 0 ∧ n = 0)
    else if k = 3 then decide (¬ (c0 = 0 ∧ c1 = 0 ∧ c2 = 0 ∧ c3 = 0) ∧ s.toList = [] ∧ r = 0 ∧ l = 0 ∧ n = 0)
    else if k = 4 then decide ((c0 = 0 ∧ c1 = 0 ∧ c2 = 0 ∧ c3 = 0) ∧ ¬ s.toList = [] ∧ s.size ≤ 64 ∧ r = 0 ∧ l = 0 ∧ n = 0)
    else if k = 5 then decide ((c0 = 0 ∧ c1 = 0 ∧ c2 = 0 ∧ c3 = 0) ∧ s.toList = [] ∧ 0 ≤ r ∧ r < q ∧ 0 ≤ l ∧ l ≤ 99 ∧ n = 0)
    else if k = 6 ∨ k = 7 then decide ((c0 = 0 ∧ c1 = 0 ∧ c2 = 0 ∧ c3 = 0) ∧ s.toList = [] ∧ r = 0 ∧ l = 0 ∧ 2 ≤ n ∧ n ≤ 64)
    else if 8 ≤ k ∧ k ≤ 12 then decide ((c0 = 0 ∧ c1 = 0 ∧ c2 = 0 ∧ c3 = 0) ∧ s.toList = [] ∧ r = 0 ∧ l = 0 ∧ n = 1)
    else false := by
  unfold nodeN bareB plainB
  simp only [toList_none, size_pos_iff]
  repeat' split
  all_goals first | rfl | (rw [Bool.eq_iff_iff]; simp; done) | (rw [Bool.eq_iff_iff]; simp; grind)

set_option maxRecDepth 100000 in
set_option maxHeartbeats 4000000 in
theorem refNode_any0 (w : World) (k c0 c1 c2 c3 l q : Int) (s : ByteArray) (a : Option Addr) (n m : Nat) :
    Calls Tryz.prog 160 #[.agg #[.int .i64 k, .int .u64 c0, .int .u64 c1, .int .u64 c2, .int .u64 c3, .string s, .int .i64 0, .int .i64 l, .slice a n m], .int .i64 q] w fun e w' =>
      e = .returned (.bool (nodeN k c0 c1 c2 c3 0 l q s n)) ∧ Chg [] w w' := by
  go_enter Tryz.func160, Tryz.ntmps160
  go_wp2_with fail
  go_quiet (fail)
  go_wp2_with fail
  all_goals go_ret
  all_goals refine ⟨ret_bool ?_, (((Chg.refl _ _).alloc _).alloc _).drewN _⟩
  all_goals rw [nodeN_or, Bool.eq_iff_iff]
  all_goals simp only [beq_iff_eq, beq_eq_false_iff_ne, ne_eq] at *
  all_goals grind
set_option maxRecDepth 100000 in
set_option maxHeartbeats 8000000 in
theorem refNode_any1 (w : World) (k c0 c1 c2 c3 r l q : Int) (s : ByteArray) (a : Option Addr) (n m : Nat) (hr : (r != 0) = true) :
    Calls Tryz.prog 160 #[.agg #[.int .i64 k, .int .u64 c0, .int .u64 c1, .int .u64 c2, .int .u64 c3, .string s, .int .i64 r, .int .i64 l, .slice a n m], .int .i64 q] w fun e w' =>
      e = .returned (.bool (nodeN k c0 c1 c2 c3 r l q s n)) ∧ Chg [] w w' := by
  go_enter Tryz.func160, Tryz.ntmps160
  go_wp2_with fail
  go_quiet (fail)
  go_wp2_with fail
  all_goals go_ret
  all_goals refine ⟨ret_bool ?_, (((Chg.refl _ _).alloc _).alloc _).drewN _⟩
  all_goals rw [nodeN_or, Bool.eq_iff_iff]
  all_goals simp only [beq_iff_eq, beq_eq_false_iff_ne, bne_iff_ne, ne_eq] at *
  all_goals grind
theorem refNode_any (w : World) (k c0 c1 c2 c3 r l q : Int) (s : ByteArray) (a : Option Addr) (n m : Nat) :
    Calls Tryz.prog 160 #[.agg #[.int .i64 k, .int .u64 c0, .int .u64 c1, .int .u64 c2, .int .u64 c3, .string s, .int .i64 r, .int .i64 l, .slice a n m], .int .i64 q] w fun e w' =>
      e = .returned (.bool (nodeN k c0 c1 c2 c3 r l q s n)) ∧ Chg [] w w' := by
  by_cases hr : r = 0
  · subst hr; exact refNode_any0 w k c0 c1 c2 c3 l q s a n m
  · exact refNode_any1 w k c0 c1 c2 c3 r l q s a n m (by simpa using hr)
end Go.Proofs.YtlklmpjakeedcaaGreatDoor
set_option linter.unusedVariables false
set_option linter.unusedSimpArgs false
namespace Go.Proofs.YtlklmpjakeedcaaGreatDoor
open Go.RowKit Go.MapKept Go.Shelf

theorem kidsAft_snoc {F : Nat → Option (Nat × Nat)} {k : Int} : ∀ {ks : List Int} {next high : Nat}, kidsAft F (ks ++ [k]) next high = match kidsAft F ks next high with | none => none | some (e, hh) => kidsAft F [k] e hh := by
  intro ks
  induction ks with
  | nil => intro next high; rfl
  | cons j ks ih =>
    intro next high
    simp only [List.cons_append, kidsAft]
    split
    · split
      · rfl
      · exact ih
    · rfl
theorem kidsAft_none {F : Nat → Option (Nat × Nat)} {l : List Int} : ∀ {ks : List Int} {next high : Nat}, kidsAft F ks next high = none → kidsAft F (ks ++ l) next high = none := by
  intro ks
  induction ks with
  | nil => intro next high h; cases h
  | cons j ks ih =>
    intro next high h
    simp only [List.cons_append, kidsAft] at h ⊢
    split
    · rename_i hj
      rw [if_pos hj] at h
      split
      · rfl
      · rename_i z hh he
        rw [he] at h
        exact ih h
    · rfl
def aftI (o : Option (Nat × Nat)) : Int × Int := match o with | none => (-1, 0) | some (e, h) => (e, h)
theorem aft_succ {ns : List Nd} {f n : Nat} (hn : n < ns.length) : aft ns (f + 1) n = kidsAft (aft ns f) ns[n].kids (n + 1) 1 := by
  rw [aft, List.getElem?_eq_getElem hn]

set_option maxRecDepth 100000 in
set_option maxHeartbeats 4000000 in
theorem after_any (a1 : Option Addr) (n1 c1 : Nat) (a2 : Option Addr) (n2 c2 : Nat) (g : Gr) (hb2 : n2 ≤ 17592186044416) : ∀ (f n : Nat) (w : World), GramAt w a1 n1 c1 a2 n2 c2 g → f ≤ 1000000 → n ≤ 17592186044416 →
    Calls Tryz.prog 163 #[.agg #[.slice a1 n1 c1, .slice a2 n2 c2], .int .i64 n, .int .i64 f] w fun e w' => e = .returned (.tuple #[.int .i64 (aftI (aft g.nodes f n)).1, .int .i64 (aftI (aft g.nodes f n)).2]) ∧ Chg [] w w' := by
  intro f
  induction f with
  | zero =>
    intro n w hg hf hn
    have HG := Lib.hid hg
    clear hg
    have he : (aftI (aft g.nodes 0 n)) = (-1, 0) := rfl
    rw [he]
    clear he
    by_cases hl : n < n2
    all_goals
      go_enter Tryz.func163, Tryz.ntmps163
      go_wp2_with fail
      go_ret2
      exact ⟨rfl, (Chg.refl _ _).alloc _⟩
  | succ f ih =>
    intro n w hg hf hn
    have HG := Lib.hid (And.intro hg ih)
    have hf' : f ≤ 1000000 := by omega
    by_cases hl : n < n2
    · have hnn : n < g.nodes.length := by have := hg.e2; omega
      have he := aft_succ (f := f) hnn
      obtain ⟨R, hR⟩ : ∃ R, R = aft g.nodes (f + 1) n := ⟨_, rfl⟩
      rw [← hR] at he ⊢
      obtain ⟨b, o, ak, nk, ck, rfl, hnode⟩ := hg.nodes n hnn
      have hkc := hnode.le
      have hkm := hnode.cap
      unfold maxLen at hkm
      have HX := Lib.hid hnode
      have HE := Lib.hid he
      clear hnode he hR hg ih
      go_enter Tryz.func163, Tryz.ntmps163
      go_wp2_with fail
      have HB := Lib.hid (GrBox.new w a1 n1 c1 (some ⟨b, o, none⟩) n2 c2)
      go_loopg [10, 8, 9] nk (fun d kv xv yv wr => ∃ k x y : Nat, d = nk - k ∧ k ≤ nk ∧ kv = .int .i64 k ∧ xv = .int .i64 x ∧ yv = .int .i64 y ∧ x ≤ n2 ∧ y ≤ n2 + 1 ∧ Hid (GrBox w w.heap.size a1 n1 c1 (some ⟨b, o, none⟩) n2 c2 wr ∧ kidsAft (aft g.nodes f) (g.nodes[n].kids.take k) (n + 1) 1 = some (x, y)))
      case atStart => exact ⟨0, n + 1, 1, rfl, Nat.zero_le _, rfl, by go_num, rfl, by omega, by omega, Lib.hid ⟨HB.out, rfl⟩⟩
      case round =>
        obtain ⟨k, x, y, rfl, hk, rfl, rfl, rfl, hx, hy, HK⟩ := hrel
        obtain ⟨x0, x1⟩ := cells2 HK.out.1.box
        have hlb := lt_of_block HK.out.1.box
        have hx2 := HX.out.keep HK.out.1.ch.kp
        have h8 := hx2.kids
        have hb8 := World.block_lt_of_cell? _ _ h8
        simp only at hb8
        by_cases hkl : k < nk
        · have hkk : k < g.nodes[n].kids.length := by have := HX.out.len; omega
          obtain ⟨bk, ok, rfl, hck⟩ := hx2.ints k hkk
          have hbk := World.block_lt_of_cell? _ _ hck
          simp only at hbk
          have hstep : kidsAft (aft g.nodes f) (g.nodes[n].kids.take (k + 1)) (n + 1) 1 = kidsAft (aft g.nodes f) [g.nodes[n].kids[k]] x y := by
            rw [List.take_succ_eq_append_getElem hkk, kidsAft_snoc, HK.out.2]
          have hwhole : kidsAft (aft g.nodes f) (g.nodes[n].kids.take (k + 1)) (n + 1) 1 = none → R = none := by
            intro h
            rw [HE.out, ← List.take_append_drop (k + 1) g.nodes[n].kids]
            exact kidsAft_none h
          obtain ⟨z, hzz⟩ : ∃ z, z = g.nodes[n].kids[k] := ⟨_, rfl⟩
          rw [← hzz] at hck hstep
          have HZ := Lib.hid (And.intro hstep hwhole)
          clear hx2 hstep hwhole hzz
          by_cases hz : z = (x : Int)
          · subst hz
            have qz : ((x : Int) != (x : Int)) = false := by simp
            go_wp2_with fail
            refine (HG.out.2 x _ (HG.out.1.keep HK.out.1.ch.kp) hf' (by omega)).mono ?_
            rintro e w5 ⟨rfl, hc⟩
            have HK5 := Lib.hid (HK.out.1.keep hc)
            clear hc x0 x1 hlb hck h8 hbk hb8
            cases hax : aft g.nodes f x with
            | none =>
              have hRn : R = none := HZ.out.2 (by rw [HZ.out.1]; simp only [kidsAft, if_true, hax])
              subst hRn
              clear hax
              simp only [aftI]
              go_wp2_with fail
              go_ret2
              exact ⟨rfl, HK5.out.ch⟩
            | some p =>
              obtain ⟨to, h⟩ := p
              have h1 := (aft_cover hax).1
              have h2 := aft_height hax
              have h3 := (aft_lt hax).1
              have hto : to ≤ n2 := by have := HG.out.1.e2; omega
              have hstep2 : kidsAft (aft g.nodes f) (g.nodes[n].kids.take (k + 1)) (n + 1) 1 = some (to, max y (1 + h)) := by
                rw [HZ.out.1]; simp only [kidsAft, if_true, hax]
              have HS := Lib.hid hstep2
              clear hax hstep2
              simp only [aftI]
              go_wp2_with fail
              go_roundg (nk - (k + 1))
              case measure => omega
              case rel => exact ⟨k + 1, to, max y (1 + h), rfl, by omega, by go_num, rfl, by congr 1; omega, hto, by omega, Lib.hid ⟨HK5.out, HS.out⟩⟩
          · have qz : (z != (x : Int)) = true := by simpa using hz
            have hRn : R = none := HZ.out.2 (by rw [HZ.out.1]; simp only [kidsAft, if_neg hz])
            subst hRn
            clear hz
            go_wp2_with fail
            go_ret2
            exact ⟨rfl, HK.out.1.ch⟩
        · obtain rfl : k = nk := by omega
          have hRs : R = some (x, y) := by
            rw [HE.out]
            have h1 := HK.out.2
            rw [HX.out.len, List.take_length] at h1
            exact h1
          subst hRs
          clear hx2
          go_wp2
          go_ret2
          exact ⟨rfl, HK.out.1.ch⟩
    · have he : aft g.nodes (f + 1) n = none := by
        rw [aft, List.getElem?_eq_none (by have := hg.e2; omega)]
      rw [he]
      clear he hg ih
      simp only [aftI]
      go_enter Tryz.func163, Tryz.ntmps163
      go_wp2_with fail
      go_ret2
      exact ⟨rfl, (Chg.refl _ _).alloc _⟩
end Go.Proofs.YtlklmpjakeedcaaGreatDoor

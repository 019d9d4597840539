/-
  GramTree answers true, and touches nothing that was there.
  Conditions: the grammar reads as data (GramAt); each of its lists has at most 2^44 (Reach).
-/
import Derived.Test.YtibgfgfmljhimaaG06A
set_option linter.unusedVariables false
set_option linter.unusedSimpArgs false
namespace Go.Proofs.Ytibgfgfmljhimaa
open Go.RowKit Go.MapKept Go.Shelf

theorem tab_drop {ns : List Nd} {t : List (Nat × Nat)} (h : tab ns = some t) : ∀ n, n ≤ ns.length → tabFrom (ns.drop n) n = some (t.drop n) := by
  intro n
  induction n with
  | zero => intro _; simpa [tab] using h
  | succ n ih =>
    intro hn
    have h1 := ih (by omega)
    rw [drop_split (by omega : n < ns.length)] at h1
    simp only [tabFrom] at h1
    split at h1
    · cases h1
    · rename_i t' ht'
      split at h1
      · cases h1
      · rename_i e hh hk
        simp only [Option.some.injEq] at h1
        have h2 : t.drop (n + 1) = t' := by
          have := congrArg (List.drop 1) h1
          simp only [List.drop_succ_cons, List.drop_zero, List.drop_drop] at this
          rw [this, Nat.add_comm]
        rw [h2]
        exact ht'
theorem tab_eq {ns : List Nd} {t : List (Nat × Nat)} (h : tab ns = some t) {n : Nat} (hn : n < ns.length) : ∃ e hh, kidsTab (t.drop (n + 1)) (n + 1) ns[n].kids (n + 1) 0 = some (e, hh) ∧ t[n]? = some (e - n, hh + 1) ∧ n + 1 ≤ e := by
  have h1 := tab_drop h n (by omega)
  have h2 := tab_drop h (n + 1) (by omega)
  rw [drop_split hn] at h1
  simp only [tabFrom, h2] at h1
  split at h1
  · cases h1
  · rename_i e hh hk
    simp only [Option.some.injEq] at h1
    refine ⟨e, hh, hk, ?_, (kidsTab_le hk).1⟩
    have := congrArg (fun l => l[0]?) h1
    simpa using this.symm
theorem chain_next {g : Gr} {t : List (Nat × Nat)} {k x e : Nat} (hk : k < g.rules.length) (h : chainT g t (g.rules.drop k) k x = some e) :
    ruleI g.rules g.rules[k].name = (k : Int) ∧ g.rules[k].body = (x : Int) ∧ ∃ z h, t[x]? = some (z, h) ∧ h ≤ 16 ∧ chainT g t (g.rules.drop (k + 1)) (k + 1) (x + z) = some e := by
  rw [chainT_at hk] at h
  split at h
  · rename_i hc
    simp only [Bool.and_eq_true, decide_eq_true_eq] at hc
    split at h
    · cases h
    · rename_i z hh hz
      split at h
      · rename_i hle
        exact ⟨hc.1.2, hc.2, z, hh, hz, hle, h⟩
      · cases h
  · cases h
theorem owner_at {g : Gr} {t : List (Nat × Nat)} (ht : wholeT g = some t) {i x z h n e : Nat} (hi : i < g.rules.length) (hb : ∀ j (hj : j < g.rules.length), j < i → g.rules[j].body ≤ (x : Int)) (hbi : g.rules[i].body = (x : Int))
    (hz : t[x]? = some (z, h)) (hc : chainT g t (g.rules.drop (i + 1)) (i + 1) (x + z) = some e) (h1 : x ≤ n) (h2 : n < x + z) : ownerG g n = i := by
  have htab := (wholeT_some ht).2
  have hxl : x < g.nodes.length := by
    have h3 := (List.getElem?_eq_some_iff.1 hz).1
    have := (tab_ok htab).1
    omega
  obtain ⟨z', h', hz', _, hle, _⟩ := tabOk_le (tab_ok htab) (Nat.zero_le x) hxl
  rw [Nat.sub_zero, hz] at hz'
  cases hz'
  obtain ⟨z2, hh2, hz2, hz3, _⟩ := right_aft ht (n := n) (by omega)
  have hs : sizeG g n = z2 := (size_in ht (by omega) hz2).1
  unfold ownerG
  rw [hs, if_neg (by omega)]
  have hN : ownerN g.rules n = i + 1 := by
    unfold ownerN
    have hlow : ∀ j (hj : j < g.rules.length), j < i + 1 → decide ((n : Int) < g.rules[j].body) = false := by
      intro j hj hji
      simp only [decide_eq_false_iff_not]
      by_cases e : j = i
      · subst e; rw [hbi]; omega
      · have := hb j hj (by omega); omega
    by_cases hl : i + 1 < g.rules.length
    · refine findIdx_at hl ?_ (fun j hj => hlow j (by omega) hj)
      rw [(chain_next hl hc).2.1]
      simp; omega
    · have hl2 : i + 1 = g.rules.length := by omega
      rw [findIdx_none (fun j hj => hlow j hj (by omega)), hl2]
  rw [hN]
  omega
/-- The next kid of a node of a right grammar. -/
theorem kid_next {ns : List Nd} {t : List (Nat × Nat)} (h : tab ns = some t) {n : Nat} (hn : n < ns.length) {k a y : Nat} (hk : k < ns[n].kids.length) (hp : kidsTab (t.drop (n + 1)) (n + 1) (ns[n].kids.take k) (n + 1) 0 = some (a, y)) :
    ns[n].kids[k] = (a : Int) ∧ n + 1 ≤ a ∧ a < ns.length ∧ ∃ z hh, t[a]? = some (z, hh) ∧ a + z ≤ ns.length ∧ hh ≤ z ∧ kidsTab (t.drop (n + 1)) (n + 1) (ns[n].kids.take (k + 1)) (n + 1) 0 = some (a + z, max y hh) := by
  obtain ⟨e, hh0, hk0, _, _⟩ := tab_eq h hn
  have ha := (kidsTab_le hp).1
  have h1 : kidsTab (t.drop (n + 1)) (n + 1) (ns[n].kids.take (k + 1)) (n + 1) 0 = kidsTab (t.drop (n + 1)) (n + 1) [ns[n].kids[k]] a y := by
    rw [List.take_succ_eq_append_getElem hk, kidsTab_snoc, hp]
  have h2 : kidsTab (t.drop (n + 1)) (n + 1) (ns[n].kids.take (k + 1)) (n + 1) 0 ≠ none := by
    intro hnone
    have := kidsTab_none (l := ns[n].kids.drop (k + 1)) hnone
    rw [List.take_append_drop, hk0] at this
    cases this
  rw [h1] at h2
  simp only [kidsTab] at h2
  by_cases e1 : ns[n].kids[k] = (a : Int)
  · rw [if_pos e1] at h2
    have hd : (t.drop (n + 1))[a - (n + 1)]? = t[a]? := by rw [List.getElem?_drop]; congr 1; omega
    rw [hd] at h2
    cases hta : t[a]? with
    | none => rw [hta] at h2; exact absurd rfl h2
    | some p =>
      obtain ⟨z, hh⟩ := p
      have hal : a < ns.length := by
        have h3 := (List.getElem?_eq_some_iff.1 hta).1
        have := (tab_ok h).1
        omega
      obtain ⟨z', h', hz', _, hle, hhz⟩ := tabOk_le (tab_ok h) (Nat.zero_le a) hal
      rw [Nat.sub_zero, hta] at hz'
      cases hz'
      refine ⟨e1, ha, hal, z, hh, rfl, hle, hhz, ?_⟩
      rw [h1]
      simp only [kidsTab, if_pos e1, hd, hta]
  · rw [if_neg e1] at h2; exact absurd rfl h2

theorem whole_chain {g : Gr} {t : List (Nat × Nat)} (ht : wholeT g = some t) : chainT g t g.rules 0 0 = some g.nodes.length := by
  unfold wholeT at ht
  split at ht
  · split at ht
    · cases ht
    · rename_i t' ht'
      split at ht
      · rename_i hc
        simp only [Option.some.injEq] at ht
        subst ht
        simpa using hc
      · cases ht
  · cases ht
theorem chain_le {g : Gr} {t : List (Nat × Nat)} (ht : tab g.nodes = some t) {x z h : Nat} (hz : t[x]? = some (z, h)) : x < g.nodes.length ∧ 1 ≤ z ∧ x + z ≤ g.nodes.length := by
  have hxl : x < g.nodes.length := by
    have h3 := (List.getElem?_eq_some_iff.1 hz).1
    have := (tab_ok ht).1
    omega
  obtain ⟨z', h', hz', h1, hle, _⟩ := tabOk_le (tab_ok ht) (Nat.zero_le x) hxl
  rw [Nat.sub_zero, hz] at hz'
  cases hz'
  exact ⟨hxl, h1, hle⟩

set_option maxRecDepth 100000 in
set_option maxHeartbeats 8000000 in
theorem gramTree_any (w : World) (a1 : Option Addr) (n1 c1 : Nat) (a2 : Option Addr) (n2 c2 : Nat) (g : Gr) (hg : GramAt w a1 n1 c1 a2 n2 c2 g) (hre : Reach g) :
    Calls Try.prog 4 #[.agg #[.slice a1 n1 c1, .slice a2 n2 c2]] w fun e w' => e = .returned (.bool true) ∧ Chg [] w w' := by
  obtain ⟨hs1, hs2⟩ := hg.small
  have HG := Lib.hid (And.intro hg hre)
  clear hg hre
  go_enter Try.func4, Try.ntmps4
  go_wp2_with fail
  have HB := Lib.hid (GrBox.new w a1 n1 c1 a2 n2 c2)
  refine (awake_any _).mono ?_
  rintro e w1 ⟨rfl, hc⟩
  have HB1 := Lib.hid (HB.out.keep hc)
  clear hc
  obtain ⟨x0, x1⟩ := cells2 HB1.out.box
  have hl := lt_of_block HB1.out.box
  go_wp2_with fail
  refine (size06_any _ a1 n1 c1 a2 n2 c2 g (HG.out.1.keep HB1.out.ch.kp) HG.out.2).mono ?_
  rintro e w2 ⟨m, rfl, hm1, hm2, hc⟩
  have HB2 := Lib.hid (HB1.out.keep hc)
  clear hc x0 x1 hl
  obtain ⟨x0, x1⟩ := cells2 HB2.out.box
  have hl := lt_of_block HB2.out.box
  by_cases hsm : smallG g
  · have hm := hm1 hsm
    have HS := Lib.hid hsm
    clear hm1 hm2 hsm
    go_wp2_with fail
    refine (Right_any _ a1 n1 c1 a2 n2 c2 g (HG.out.1.keep HB2.out.ch.kp)).mono ?_
    rintro e w3 ⟨rfl, hc⟩
    have HB3 := Lib.hid (HB2.out.keep hc)
    clear hc x0 x1 hl
    obtain ⟨x0, x1⟩ := cells2 HB3.out.box
    have hl := lt_of_block HB3.out.box
    cases hr : rightB g with
    | false =>
      have hnone : wholeT g = none := by
        have := rightB_iff g
        rw [hr] at this
        cases h : wholeT g with
        | none => rfl
        | some t => rw [h] at this; cases this
      have HN := Lib.hid hnone
      clear hr hnone
      go_wp2_with fail
      go_loopg [3] n2 (fun d kv wr => ∃ k : Nat, d = n2 - k ∧ k ≤ n2 ∧ kv = .int .i64 k ∧ Hid (GrBox w w.heap.size a1 n1 c1 a2 n2 c2 wr))
      case atStart => exact ⟨0, rfl, Nat.zero_le _, rfl, HB3⟩
      case round =>
        obtain ⟨k, rfl, hk, rfl, HR⟩ := hrel
        clear x0 x1 hl
        obtain ⟨x0, x1⟩ := cells2 HR.out.box
        have hl := lt_of_block HR.out.box
        by_cases hlt : k < n2
        · go_wp2_with fail
          refine (Size_any _ a1 n1 c1 a2 n2 c2 g k (HG.out.1.keep HR.out.ch.kp)).mono ?_
          rintro e w4 ⟨rfl, hc⟩
          rw [(size_none HN.out _).1]
          have HR2 := Lib.hid (HR.out.keep hc)
          clear hc x0 x1 hl
          obtain ⟨x0, x1⟩ := cells2 HR2.out.box
          have hl := lt_of_block HR2.out.box
          go_wp2_with fail
          refine (Height_any _ a1 n1 c1 a2 n2 c2 g k (HG.out.1.keep HR2.out.ch.kp)).mono ?_
          rintro e w5 ⟨rfl, hc⟩
          rw [(size_none HN.out _).2]
          have HR3 := Lib.hid (HR2.out.keep hc)
          clear hc x0 x1 hl
          obtain ⟨x0, x1⟩ := cells2 HR3.out.box
          have hl := lt_of_block HR3.out.box
          go_wp2_with fail
          refine (Owner_any _ a1 n1 c1 a2 n2 c2 g k (HG.out.1.keep HR3.out.ch.kp)).mono ?_
          rintro e w6 ⟨rfl, hc⟩
          rw [show ownerG g k = -1 from by unfold ownerG; rw [if_pos (size_none HN.out _).1]]
          have HR4 := Lib.hid (HR3.out.keep hc)
          clear hc
          go_wp2
          go_roundg (n2 - (k + 1))
          case measure => omega
          case rel => exact ⟨k + 1, rfl, by omega, by go_num, HR4⟩
        · obtain rfl : k = n2 := by omega
          go_wp2
          go_ret
          exact ⟨rfl, HR.out.ch⟩
    | true =>
      obtain ⟨t, ht, htab, _⟩ := right_tab hr
      have HT := Lib.hid (And.intro ht (And.intro htab hr))
      clear hr ht htab
      go_wp2_with fail
      go_loopg [5, 4] n1 (fun d iv xv wr => ∃ i x : Nat, d = n1 - i ∧ i ≤ n1 ∧ iv = .int .i64 i ∧ xv = .int .i64 x ∧ x ≤ n2 ∧ Hid (GrBox w w.heap.size a1 n1 c1 a2 n2 c2 wr ∧ chainT g t (g.rules.drop i) i x = some g.nodes.length ∧ ∀ j (hj : j < g.rules.length), j < i → g.rules[j].body ≤ (x : Int)))
      case atStart => exact ⟨0, 0, rfl, Nat.zero_le _, rfl, rfl, Nat.zero_le _, Lib.hid ⟨HB3.out, by simpa using whole_chain HT.out.1, fun j _ h => by omega⟩⟩
      case round =>
        obtain ⟨i, x, rfl, hi, rfl, rfl, hx, HR⟩ := hrel
        obtain ⟨wq, rfl⟩ : ∃ wq : World, wq = wr := ⟨_, rfl⟩
        clear x0 x1 hl
        obtain ⟨x0, x1⟩ := cells2 HR.out.1.box
        have hl := lt_of_block HR.out.1.box
        by_cases hlt : i < n1
        · have hil : i < g.rules.length := by have := HG.out.1.e1; omega
          obtain ⟨hrule, hbody, z, h, hz, hh, hch⟩ := chain_next hil HR.out.2.1
          obtain ⟨hxl, hz1, hxz⟩ := chain_le HT.out.2.1 hz
          have hxz2 : x + z ≤ n2 := by have := HG.out.1.e2; omega
          have hsz := size_in HT.out.1 hxl hz
          obtain ⟨b, o, rfl, r0, r1⟩ := (HG.out.1.rules.keep HR.out.1.ch.kp) i hil
          have hnm := HG.out.1.wf.names _ (List.getElem_mem hil)
          have hown := fun n h1 h2 => owner_at (n := n) HT.out.1 hil HR.out.2.2 hbody hz hch h1 h2
          have hbr := World.block_lt_of_cell? _ _ r0
          simp only at hbr
          have hnext : ∀ j (hj : j < g.rules.length), j < i + 1 → g.rules[j].body ≤ ((x + z : Nat) : Int) := by
            intro j hj hji
            by_cases e : j = i
            · subst e; rw [hbody]; omega
            · have := HR.out.2.2 j hj (by omega); omega
          rw [hbody] at r1
          have cH := calls_rg (w := wq) (fun w1 h1 => Height_any w1 _ n1 c1 a2 n2 c2 g x (HG.out.1.keep (HR.out.1.ch.tr h1).kp))
          rw [hsz.2] at cH
          have cR := calls_rg (w := wq) (fun w1 h1 => Rule_any w1 _ n1 c1 a2 n2 c2 g.rules g.rules[i].name HG.out.1.e1 hs1 (HG.out.1.rules.keep (HR.out.1.ch.tr h1).kp))
          rw [hrule] at cR
          obtain ⟨nm, hnmv⟩ : ∃ nm, nm = g.rules[i].name := ⟨_, rfl⟩
          rw [← hnmv] at r0 cR
          have HZ := Lib.hid (And.intro hsz.1 (And.intro hown (And.intro hch hnext)))
          clear hsz hown hch hrule hbody hz hnmv hnm hnext
          have kx0 := cell_rg x0
          have kx1 := cell_rg x1
          have kr0 := cell_rg r0
          have kr1 := cell_rg r1
          have q16 : decide (16 < (h : Int)) = false := by simp; omega
          have qx : ((x : Int) != (x : Int)) = false := by simp
          have qi : ((i : Int) != (i : Int)) = false := by simp
          have qi0 : (0 : Int) ≤ (i : Int) := by omega
          have qi1 : (i : Int) < (n1 : Int) := by omega
          go_wp2_with fail
          refine wp_region_quiet_below (by kernel_rfl) (by kernel_rfl) ?_
          repeat (go_big_quiet_step (first | (with_reducible exact cH _ _) | (with_reducible exact cR _ _)))
          refine wpQuiet_nil ?_
          intro w4 hw4
          have HR4 := Lib.hid (HR.out.1.keep (chg_of_rg hw4))
          clear hw4 kx0 kx1 kr0 kr1 cH cR x0 x1 hl r0 r1
          obtain ⟨x0, x1⟩ := cells2 HR4.out.box
          have hl := lt_of_block HR4.out.box
          go_wp2_with fail
          refine (Size_any _ _ n1 c1 a2 n2 c2 g x (HG.out.1.keep HR4.out.ch.kp)).mono ?_
          rintro e w5 ⟨rfl, hc⟩
          rw [HZ.out.1]
          have HR5 := Lib.hid (HR4.out.keep hc)
          clear hc x0 x1 hl
          go_wp2_with fail
          go_loopg [7] z (fun d qv wr => ∃ q : Nat, d = x + z - q ∧ x ≤ q ∧ q ≤ x + z ∧ qv = .int .i64 q ∧ Hid (GrBox w w.heap.size (some ⟨b, o, none⟩) n1 c1 a2 n2 c2 wr))
          case atStart => exact ⟨x, by omega, Nat.le_refl _, by omega, rfl, HR5⟩
          case round =>
            obtain ⟨q, rfl, hq1, hq2, rfl, HQ⟩ := hrel
            obtain ⟨x0, x1⟩ := cells2 HQ.out.box
            have hl := lt_of_block HQ.out.box
            by_cases hqlt : q < x + z
            · go_wp2_with fail
              refine (Owner_any _ _ n1 c1 a2 n2 c2 g q (HG.out.1.keep HQ.out.ch.kp)).mono ?_
              rintro e w6 ⟨rfl, hc⟩
              rw [HZ.out.2.1 q hq1 hqlt]
              have HQ2 := Lib.hid (HQ.out.keep hc)
              clear hc
              go_wp2
              go_roundg (x + z - (q + 1))
              case measure => omega
              case rel => exact ⟨q + 1, rfl, by omega, by omega, by go_num, HQ2⟩
            · obtain rfl : q = x + z := by omega
              go_wp2
              go_roundg (n1 - (i + 1))
              case measure => omega
              case rel => exact ⟨i + 1, x + z, rfl, by omega, by go_num, by go_num, hxz2, Lib.hid ⟨HQ.out, HZ.out.2.2.1, HZ.out.2.2.2⟩⟩
        · obtain rfl : i = n1 := by omega
          have hxn : x = n2 := by
            have h1 := HR.out.2.1
            rw [HG.out.1.e1, List.drop_length] at h1
            simp only [chainT, Option.some.injEq] at h1
            have := HG.out.1.e2
            omega
          have HXN := Lib.hid hxn
          clear hxn
          go_wp2_with fail
          go_loopg [8] n2 (fun d nv wr => ∃ n : Nat, d = n2 - n ∧ n ≤ n2 ∧ nv = .int .i64 n ∧ Hid (GrBox w w.heap.size a1 i c1 a2 n2 c2 wr))
          case atStart => exact ⟨0, rfl, Nat.zero_le _, rfl, Lib.hid HR.out.1⟩
          case round =>
            obtain ⟨n, rfl, hn, rfl, HN⟩ := hrel
            obtain ⟨wp, rfl⟩ : ∃ wp : World, wp = wr := ⟨_, rfl⟩
            clear x0 x1 hl
            obtain ⟨x0, x1⟩ := cells2 HN.out.box
            have hl := lt_of_block HN.out.box
            by_cases hnl : n < n2
            · have hnn : n < g.nodes.length := by have := HG.out.1.e2; omega
              obtain ⟨b, o, ak, nk, ck, rfl, hnode⟩ := HG.out.1.nodes n hnn
              have hkc := hnode.le
              have hkm := hnode.cap
              unfold maxLen at hkm
              have HX := Lib.hid hnode
              clear hnode
              go_wp2_with fail
              go_loopg [11, 9, 10] nk (fun d kv av yv wr => ∃ k a y : Nat, d = nk - k ∧ k ≤ nk ∧ kv = .int .i64 k ∧ av = .int .i64 a ∧ yv = .int .i64 y ∧ a ≤ n2 ∧ y ≤ n2 ∧ Hid (GrBox w w.heap.size a1 i c1 (some ⟨b, o, none⟩) n2 c2 wr ∧ kidsTab (t.drop (n + 1)) (n + 1) (g.nodes[n].kids.take k) (n + 1) 0 = some (a, y)))
              case atStart => exact ⟨0, n + 1, 0, rfl, Nat.zero_le _, rfl, by go_num, rfl, by omega, Nat.zero_le _, Lib.hid ⟨HN.out, rfl⟩⟩
              case round =>
                obtain ⟨k, a, y, rfl, hk, rfl, rfl, rfl, ha, hy, HK⟩ := hrel
                clear x0 x1 hl
                obtain ⟨x0, x1⟩ := cells2 HK.out.1.box
                have hl := lt_of_block HK.out.1.box
                have hx2 := HX.out.keep HK.out.1.ch.kp
                by_cases hkl : k < nk
                · have hkk : k < g.nodes[n].kids.length := by have := HX.out.len; omega
                  obtain ⟨hkv, ha1, hal, z, hh, hz, haz, hhz, hstep⟩ := kid_next HT.out.2.1 hnn hkk HK.out.2
                  obtain ⟨bk, ok, rfl, hck⟩ := hx2.ints k hkk
                  rw [hkv] at hck
                  have h8 := hx2.kids
                  have hbk := World.block_lt_of_cell? _ _ hck
                  have hb8 := World.block_lt_of_cell? _ _ h8
                  simp only at hbk hb8
                  have hsz := size_in HT.out.1 hal hz
                  have hzn : a + z ≤ n2 := by have := HG.out.1.e2; omega
                  have HZ := Lib.hid (And.intro hsz hstep)
                  have qa : ((a : Int) != (a : Int)) = false := by simp
                  clear hx2 hsz hstep hkv hz
                  go_wp2_with fail
                  refine (Height_any _ a1 i c1 _ n2 c2 g a (HG.out.1.keep HK.out.1.ch.kp)).mono ?_
                  rintro e w5 ⟨rfl, hc⟩
                  rw [HZ.out.1.2]
                  have HK5 := Lib.hid (HK.out.1.keep hc)
                  clear hc x0 x1 hl hck h8 hbk hb8
                  obtain ⟨x0, x1⟩ := cells2 HK5.out.box
                  have hl := lt_of_block HK5.out.box
                  go_wp2_with fail
                  all_goals refine (Size_any _ a1 i c1 _ n2 c2 g a (HG.out.1.keep HK5.out.ch.kp)).mono ?_
                  all_goals rintro e w6 ⟨rfl, hc⟩
                  all_goals rw [HZ.out.1.1]
                  all_goals have HK6 := Lib.hid (HK5.out.keep hc)
                  all_goals clear hc
                  all_goals go_wp2
                  all_goals go_roundg (nk - (k + 1))
                  case measure => omega
                  case rel =>
                    refine ⟨k + 1, a + z, max y hh, rfl, by omega, by go_num, by go_num, by congr 1; omega, hzn, by omega, Lib.hid ⟨HK6.out, ?_⟩⟩
                    rw [HZ.out.2]
                · obtain rfl : k = nk := by omega
                  have htk : kidsTab (t.drop (n + 1)) (n + 1) g.nodes[n].kids (n + 1) 0 = some (a, y) := by
                    have h1 := HK.out.2
                    rw [HX.out.len, List.take_length] at h1
                    exact h1
                  obtain ⟨e, hh, he, het, hen⟩ := tab_eq HT.out.2.1 hnn
                  rw [htk] at he
                  cases he
                  have hsz := size_in HT.out.1 hnn het
                  have hsz1 : sizeG g n = (a : Int) - (n : Int) := by rw [hsz.1]; omega
                  have hsz2 : heightG g n = (y : Int) + 1 := by rw [hsz.2]; omega
                  have hnode := right_node HT.out.2.2 hnn
                  rw [← HG.out.1.e1] at hnode
                  have hkI := (HG.out.1.wf.nodes _ (List.getElem_mem hnn)).k
                  obtain ⟨xn, hxn⟩ : ∃ xn, xn = g.nodes[n] := ⟨_, rfl⟩
                  rw [← hxn] at hx2 hkI hnode
                  clear hxn
                  obtain ⟨xk, xc0, xc1, xc2, xc3, xs, xr, xl, xkids⟩ := xn
                  obtain ⟨v0, v1, v2, v3, v4, v5, v6, v7, v8, l1, l2, l3, l4⟩ := hx2
                  have hb8 := World.block_lt_of_cell? _ _ v8
                  simp only at hb8
                  unfold nodeB at hnode
                  dsimp only at v0 v1 v2 v3 v4 v5 v6 v7 v8 l1 hkI hnode
                  rw [← l1] at hnode
                  clear l1 l2 l3 l4 htk het hsz
                  obtain ⟨wz, rfl⟩ : ∃ wz : World, wz = wr := ⟨_, rfl⟩
                  have cN := calls_rg (w := wz) (fun w1 h1 => (Node_any w1 xk xc0 xc1 xc2 xc3 xr xl i xs ak k ck hkI).mono fun _ _ h => h)
                  rw [hnode] at cN
                  have cS := calls_rg (w := wz) (fun w1 h1 => Size_any w1 a1 i c1 _ n2 c2 g n (HG.out.1.keep (HK.out.1.ch.tr h1).kp))
                  rw [hsz1] at cS
                  have cH := calls_rg (w := wz) (fun w1 h1 => Height_any w1 a1 i c1 _ n2 c2 g n (HG.out.1.keep (HK.out.1.ch.tr h1).kp))
                  rw [hsz2] at cH
                  have kx0 := cell_rg x0
                  have kx1 := cell_rg x1
                  have kv0 := cell_rg v0
                  have kv1 := cell_rg v1
                  have kv2 := cell_rg v2
                  have kv3 := cell_rg v3
                  have kv4 := cell_rg v4
                  have kv5 := cell_rg v5
                  have kv6 := cell_rg v6
                  have kv7 := cell_rg v7
                  have kv8 := cell_rg v8
                  have qn0 : (0 : Int) ≤ (n : Int) := by omega
                  have qn1 : (n : Int) < (n2 : Int) := by omega
                  have q1 : (((a : Int) - (n : Int)) != ((a : Int) - (n : Int))) = false := by simp
                  have q2 : (((y : Int) + 1) != ((y : Int) + 1)) = false := by simp
                  have hn300 : n2 ≤ 300 := by have := HS.out; unfold smallG at this; have := HG.out.1.e2; omega
                  have qw1 : IntKind.i64.wrap ((a : Int) - (n : Int)) = (a : Int) - (n : Int) := IntWalk.i64_in _ (by omega)
                  have qw2 : IntKind.i64.wrap ((y : Int) + 1) = (y : Int) + 1 := IntWalk.i64_in _ (by omega)
                  clear hsz1 hsz2 hnode hkI
                  go_wp2_with fail
                  refine wp_region_quiet_below (by kernel_rfl) (by kernel_rfl) ?_
                  repeat (go_big_quiet_step (first | (with_reducible exact cS _ _) | (with_reducible exact cH _ _) | (with_reducible exact cN _ _)))
                  refine wpQuiet_nil ?_
                  intro w4 hw4
                  have HR4 := Lib.hid (HK.out.1.keep (chg_of_rg hw4))
                  clear hw4 kx0 kx1 kv0 kv1 kv2 kv3 kv4 kv5 kv6 kv7 kv8 cS cH cN x0 x1 hl v0 v1 v2 v3 v4 v5 v6 v7 v8
                  go_wp2
                  go_roundg (n2 - (n + 1))
                  case measure => omega
                  case rel => exact ⟨n + 1, rfl, by omega, by go_num, HR4⟩
            · obtain rfl : n = n2 := by omega
              have hq : ((x : Int) == (n : Int)) = true := by have := HXN.out; simp; omega
              go_wp2
              go_ret
              exact ⟨rfl, HN.out.ch⟩
  · have hm := hm2 hsm
    clear hm1 hm2 hsm
    go_wp2
    go_ret
    exact ⟨rfl, HB2.out.ch⟩
end Go.Proofs.Ytibgfgfmljhimaa

/-
  The document's store: Live.
  Conditions: none.
-/
import Derived.Test.YtffjfkjlahdedaaSnsSr1
import Derived.Test.YtffjfkjlahdedaaSnsGAny
import Derived.Test.YtffjfkjlahdedaaSnsGTail
set_option linter.unusedVariables false
set_option linter.unusedSimpArgs false
set_option linter.unnecessarySimpa false
namespace Go.Proofs.Ytffjfkjlahdedaa
open Go.RowKit Go.MapKept

/-! ### A number put into a rising row -/
def insS : List Int → Int → List Int
  | [], x => [x]
  | y :: l, x => if y < x then y :: insS l x else x :: y :: l
theorem insS_cut : ∀ {T : List Int} {x : Int} {k : Nat}, k ≤ T.length → (∀ j (h : j < T.length), j < k → T[j] < x) → (∀ h : k < T.length, x ≤ T[k]) → insS T x = T.take k ++ x :: T.drop k
  | [], x, k, hk, h1, h2 => by simp [insS]
  | y :: T, x, 0, hk, h1, h2 => by
    have h3 := h2 (by simp)
    simp only [List.getElem_cons_zero] at h3
    unfold insS
    rw [if_neg (by omega)]
    simp
  | y :: T, x, k + 1, hk, h1, h2 => by
    have h3 := h1 0 (by simp) (by omega)
    simp only [List.getElem_cons_zero] at h3
    unfold insS
    rw [if_pos h3, insS_cut (T := T) (x := x) (k := k) (by simpa using hk) (fun j h hj => h1 (j + 1) (by simpa using h) (by omega)) (fun h => h2 (by simpa using h))]
    simp
theorem insS_perm : ∀ (T : List Int) (x : Int), (insS T x).Perm (x :: T)
  | [], x => List.Perm.refl _
  | y :: T, x => by
    unfold insS
    split
    · exact ((insS_perm T x).cons y).trans (List.Perm.swap x y T)
    · exact List.Perm.refl _
theorem insS_sorted : ∀ {T : List Int} {x : Int}, T.Pairwise (· ≤ ·) → (insS T x).Pairwise (· ≤ ·)
  | [], x, _ => by simp [insS]
  | y :: T, x, h => by
    obtain ⟨h1, h2⟩ := List.pairwise_cons.1 h
    unfold insS
    split
    · rename_i hlt
      refine List.pairwise_cons.2 ⟨fun z hz => ?_, insS_sorted h2⟩
      rcases List.mem_cons.1 ((insS_perm T x).subset hz) with rfl | hz
      · omega
      · exact h1 z hz
    · refine List.pairwise_cons.2 ⟨fun z hz => ?_, h⟩
      rcases List.mem_cons.1 hz with rfl | hz
      · omega
      · have := h1 z hz; omega
def insAll (zs : List Int) : List Int := zs.foldl insS []
theorem insAll_snoc (zs : List Int) (x : Int) : insAll (zs ++ [x]) = insS (insAll zs) x := by simp [insAll]
theorem foldl_ins : ∀ (zs T : List Int), (zs.foldl insS T).Perm (zs ++ T) ∧ (T.Pairwise (· ≤ ·) → (zs.foldl insS T).Pairwise (· ≤ ·))
  | [], T => ⟨List.Perm.refl _, fun h => h⟩
  | z :: zs, T => by
    obtain ⟨h1, h2⟩ := foldl_ins zs (insS T z)
    refine ⟨h1.trans ?_, fun h => h2 (insS_sorted h)⟩
    refine ((insS_perm T z).append_left zs).trans ?_
    exact List.perm_middle
theorem insAll_eq (zs : List Int) : insAll zs = sorted zs := by
  obtain ⟨h1, h2⟩ := foldl_ins zs []
  rw [List.append_nil] at h1
  unfold insAll sorted
  refine List.Perm.eq_of_pairwise (le := fun a b : Int => a ≤ b) (fun a b _ _ h1 h2 => by omega) (h2 List.Pairwise.nil) ?_ (h1.trans (List.mergeSort_perm zs _).symm)
  have h3 := List.pairwise_mergeSort (le := fun x y : Int => decide (x ≤ y)) (fun a b c h1 h2 => by simp only [decide_eq_true_eq] at *; omega) (fun a b => by simp only [Bool.or_eq_true, decide_eq_true_eq]; omega) zs
  exact h3.imp fun h => by simpa using h
theorem insAll_len (zs : List Int) : (insAll zs).length = zs.length := by rw [insAll_eq, sorted_length]

/-! ### append to a full row just made -/
theorem wp_append_full {P : Program} {w : World} {o : Oper} {a : Act} {K : Act → World → Prop} {Q : Exit → Act → World → Prop} (s x : Operand) (t : TypeId)
    (ho : o.op = .call { callee := .builtin .append, args := #[s, x], argTypes := #[t, t] })
    (e : TypeId) (i : TypeInfo) (z : Value) (size bytes : Nat) (ht : P.underlying t = some (.slice e)) (hi : P.info? e = some i) (hz : i.zero = some z)
    (hsize : i.size = size) (hby : i.bytes = bytes) (hzs : z.cells.size = size) (hsz : 0 < size)
    (g n : Nat) (xs : List Value) (hs : a.eval s = .slice (some ⟨g, 0, none⟩) n n) (hg : w.heap[g]? = some (.cells xs.toArray e (0, 0))) (hxl : xs.length = n * size) (hn : n ≤ 1000000) (base : Nat) (hbg : base ≤ g)
    (ad : Option Addr) (m c : Nat) (news : List Value) (hx : a.eval x = .slice ad m c) (hl : news.length = m * size) (hnone : ad = none → m = 0 ∧ c = 0) (hnews : ∀ b, ad = some b → ∀ j u, news[j]? = some u → w.cell? (b.add j) = some u) (h1 : ∀ u ∈ news, u.oneCell' = true)
    (h63 : n + m ≤ maxLen) (hbytes : (n + m) * bytes ≤ 140737488355328)
    (h : ∀ a' c' w', w'.ownsRow base e size (.slice a' (n + m) c') (n + m) (xs ++ news) → Chg [] w w' → K (a.put o.dst (.slice a' (n + m) c')) w') : o.wp P a w K Q := by
  have hown : w.ownsRow base e size (.slice (some ⟨g, 0, none⟩) n n) n xs := ⟨hxl, .inr ⟨g, n, xs.toArray, rfl, hbg, hg, Nat.le_refl _, by simp only [maxLen]; omega, by simp [hxl], by simp [← hxl]⟩⟩
  have hgl := lt_of_block hg
  cases ad with
  | none =>
    obtain ⟨rfl, rfl⟩ := hnone rfl
    obtain rfl : news = [] := List.eq_nil_of_length_eq_zero (by simpa using hl)
    have hrun := run_append_owned_none (P := P) (w := w) base t o.type e i size ht hi _ n xs hown
    unfold Oper.wp
    simp [execOp, ho, resolve, invoke, builtin, hs, hx, hrun, Result.andThen]
    exact h _ _ _ (by simpa using hown) (Chg.refl _ _)
  | some ad =>
    obtain ⟨v', w', hr, h2, h3, h4⟩ := run_append_two (P := P) w base t o.type e i z size bytes ht hi hz hsize hby hzs hsz _ n xs hown ad m c news hl (hnews ad rfl) h1 h63 hbytes (by omega)
    obtain ⟨a', c', rfl⟩ := ownsRow_slice h2
    unfold Oper.wp execOp
    simp only [ho, resolve, invoke, builtin, Sem.run_bind, Sem.run_pure, Result.andThen_ok, List.map_toArray, List.map_cons, List.map_nil, hs, hx, hr]
    refine h _ _ _ h2 ?_
    rcases h4 with ⟨g', cap, e1, e2⟩ | ⟨h4, _⟩
    · simp only [Value.slice.injEq, Option.some.injEq, Addr.mk.injEq, and_true, true_and] at e1 e2
      obtain ⟨rfl, rfl⟩ := e1
      obtain ⟨rfl, rfl⟩ := e2
      rcases h2.2 with ⟨h0, _⟩ | ⟨g2, cap2, cur2, h0, _, hg2, hnc2, _, hcs, htk⟩
      · cases h0
      · simp only [Value.slice.injEq, Option.some.injEq, Addr.mk.injEq, and_true, true_and] at h0
        obtain ⟨rfl, rfl⟩ := h0
        obtain rfl : m = 0 := by omega
        obtain rfl : news = [] := List.eq_nil_of_length_eq_zero (by simpa using hl)
        have hcur : cur2 = xs.toArray := by
          rw [List.append_nil, Nat.add_zero] at htk
          apply Array.ext'
          rw [← htk, List.take_of_length_le (by rw [Array.length_toList, hcs]; exact Nat.le_refl _)]
        subst hcur
        refine ⟨h3.os, h3.tape, h3.output, h3.size, fun k hk _ => ?_⟩
        by_cases e : k = g
        · subst e; rw [hg, hg2]
        · exact h3.block k hk (by simp [Value.ownBlock]; exact e)
    · exact h4
theorem wpList_append_full {P : Program} {w : World} {ops : Array Oper} {rest : List Oper} {o : Oper} {a : Act} {Q : Exit → Act → World → Prop} (hgd : o.guard = none) (s x : Operand) (t : TypeId)
    (ho : o.op = .call { callee := .builtin .append, args := #[s, x], argTypes := #[t, t] })
    (e : TypeId) (i : TypeInfo) (z : Value) (size bytes : Nat) (ht : P.underlying t = some (.slice e)) (hi : P.info? e = some i) (hz : i.zero = some z)
    (hsize : i.size = size) (hby : i.bytes = bytes) (hzs : z.cells.size = size) (hsz : 0 < size)
    (g n : Nat) (xs : List Value) (hs : a.eval s = .slice (some ⟨g, 0, none⟩) n n) (hg : w.heap[g]? = some (.cells xs.toArray e (0, 0))) (hxl : xs.length = n * size) (hn : n ≤ 1000000) (base : Nat) (hbg : base ≤ g)
    (ad : Option Addr) (m c : Nat) (news : List Value) (hx : a.eval x = .slice ad m c) (hl : news.length = m * size) (hnone : ad = none → m = 0 ∧ c = 0) (hnews : ∀ b, ad = some b → ∀ j u, news[j]? = some u → w.cell? (b.add j) = some u) (h1 : ∀ u ∈ news, u.oneCell' = true)
    (h63 : n + m ≤ maxLen) (hbytes : (n + m) * bytes ≤ 140737488355328)
    (h : ∀ a' c' w', w'.ownsRow base e size (.slice a' (n + m) c') (n + m) (xs ++ news) → Chg [] w w' → wpList P ops Q rest (a.put o.dst (.slice a' (n + m) c')) w') : wpList P ops Q (o :: rest) a w :=
  wpList_plain hgd fun _ hK => wp_append_full s x t ho e i z size bytes ht hi hz hsize hby hzs hsz g n xs hs hg hxl hn base hbg ad m c news hx hl hnone hnews h1 h63 hbytes fun a' c' w' h2 h3 => hK _ _ (h a' c' w' h2 h3)
theorem oneI {l : List Int} : ∀ u ∈ l.map (Value.int .i64), u.oneCell' = true := by
  intro u hu
  obtain ⟨z, _, rfl⟩ := List.mem_map.1 hu
  rfl
/-- The cells of a part of a row. -/
theorem cellsPart {w : World} {base g m c : Nat} {T : List Int} (h : w.ownsRow base 3 1 (.slice (some ⟨g, 0, none⟩) m c) m (T.map (Value.int .i64))) (j : Nat) :
    (∀ q u, ((T.take j).map (Value.int .i64))[q]? = some u → w.cell? ((⟨g, 0, none⟩ : Addr).add q) = some u) ∧ ∀ q u, ((T.drop j).map (Value.int .i64))[q]? = some u → w.cell? ((⟨g, j, none⟩ : Addr).add q) = some u := by
  have hc : ∀ q u, (T.map (Value.int .i64))[q]? = some u → w.cell? ⟨g, q, none⟩ = some u := fun q u hu => by
    have hql := (List.getElem?_eq_some_iff.1 hu).1
    have hm := h.1
    rw [(row_put h (i := q) (by omega)).1]
    exact hu
  constructor
  · intro q u hu
    rw [List.map_take, List.getElem?_take] at hu
    split at hu
    · rw [Addr.add_lit, Nat.zero_add]; exact hc q u hu
    · cases hu
  · intro q u hu
    rw [List.map_drop, List.getElem?_drop] at hu
    rw [Addr.add_lit]
    exact hc _ u hu
set_option maxRecDepth 100000 in
set_option maxHeartbeats 16000000 in
theorem liveR_any {NB : Nat} (w : World) (B : Nat) (a : Option Addr) (c : Nat) (l : List Rs) (h : RefS NB w B a c l) (hl : l.length ≤ 100000) (place : Int) :
    Calls Try.prog 41 #[.pointer (some ⟨B, 0, none⟩), .int .i64 place] w (LivePost (sorted (rulesAt (rss l) place)) w) := by
  obtain ⟨i0, hi0, hz0, hz1, hz2⟩ := info_parts Try.infoInt
  obtain ⟨n, hn⟩ : ∃ n, n = l.length := ⟨_, rfl⟩
  obtain ⟨b, hb⟩ : ∃ z, z = w.heap.size := ⟨_, rfl⟩
  have HB := Lib.hid hb
  have x0 := cells1 h.top
  rw [← hn] at x0 hl
  have HH := Lib.hid (And.intro h hn)
  rw [← insAll_eq]
  clear h hn hb
  go_enter Try.func41, Try.ntmps41
  go_wp2_with fail
  clear x0
  go_loopg [5, 6] n (fun dd ov iv wr => ∃ (i m oc : Nat) (oa : Option Addr), dd = n - i ∧ i ≤ n ∧ ov = .slice oa m oc ∧ iv = .int .i64 i ∧ Hid (∃ T, T = insAll (rulesAt ((rss l).take i) place) ∧ m = T.length ∧ m ≤ i ∧ wr.ownsRow b 3 1 (.slice oa m oc) m (T.map (Value.int .i64)) ∧ (m = 0 → oa = none ∧ oc = 0) ∧ Chg [] w wr))
  case atStart => exact ⟨0, 0, 0, none, rfl, Nat.zero_le _, rfl, rfl, Lib.hid ⟨[], by simp [rulesAt, insAll], rfl, Nat.le_refl _, World.ownsRow_nil _ _ _ _, fun _ => ⟨rfl, rfl⟩, Chg.refl _ _⟩⟩
  case round =>
    obtain ⟨i, m, oc, oa, rfl, hi, rfl, rfl, hI⟩ := hrel
    obtain ⟨wq, rfl⟩ : ∃ wq, wq = wr := ⟨_, rfl⟩
    obtain ⟨T, hT, hm, hmi, hrow, hmz, hcq⟩ := hI.out
    have hq := HH.out.1.chg0 hcq
    have x0 := cells1 hq.top
    rw [← HH.out.2] at x0
    by_cases hil : i < n
    · have hiL : i < l.length := by have := HH.out.2; omega
      obtain ⟨G, rfl, hc1, hc2, z0, z1, -, -, -, -, -, -, -⟩ := hq.at hiL
      rw [← HH.out.2] at hc1
      have hnc9 : n ≤ c := hc1
      obtain ⟨y, hy⟩ : ∃ y, y = l[i].q := ⟨_, rfl⟩
      rw [← hy] at z0 z1
      obtain ⟨x, pl⟩ := y
      simp only at z0 z1
      have hsn : rulesAt ((rss l).take (i + 1)) place = rulesAt ((rss l).take i) place ++ (if pl = place then [x] else []) := by
        rw [List.take_succ_eq_append_getElem (by rw [rss_len]; exact hiL), rulesAt_snoc, rss_get l hiL]
        simp only [Rs.x, ← hy]
      have hi1 : (i : Int) < n := by omega
      have HQ := Lib.hid (And.intro hT (And.intro hmi hcq))
      have HR := Lib.hid hrow
      have HTm := Lib.hid hm.symm
      have HK := Lib.hid (And.intro x0 z0)
      have hmn : m ≤ 100000 := by omega
      by_cases hp : pl = place
      · rw [if_pos hp] at hsn
        have HX2 := Lib.hid hsn
        clear hsn hT hm hcq hq hrow hiL hy hI
        subst hp
        go_wp2_with fail
        clear x0 z0 z1
        go_loopg [7] m (fun dd jv wr => ∃ j : Nat, dd = m - j ∧ j ≤ m ∧ jv = .int .i64 j ∧ Hid ((∀ k (h : k < T.length), k < j → T[k] < x) ∧ Chg [] wq wr))
        case atStart => exact ⟨0, rfl, Nat.zero_le _, rfl, Lib.hid ⟨fun k h hk => by omega, Chg.refl _ _⟩⟩
        case round =>
          obtain ⟨j, rfl, hj, rfl, hJ⟩ := hrel
          obtain ⟨wz, rfl⟩ : ∃ wz, wz = wr := ⟨_, rfl⟩
          have kB := cell_rg (hJ.out.2.cell HK.out.1 (by simp))
          have kG := cell_rg (hJ.out.2.cell HK.out.2 (by simp))
          by_cases hjm : j < m
          · have hjT : j < T.length := by have := HTm.out; omega
            obtain ⟨g, eg, hmc, hmm⟩ : ∃ g, oa = some ⟨g, 0, none⟩ ∧ m ≤ oc ∧ oc ≤ maxLen := by
              rcases HR.out.2 with ⟨h0, h1⟩ | ⟨g, _, _, h0, _, _, h2, h3, _⟩
              · omega
              · cases h0; exact ⟨g, rfl, h2, h3⟩
            subst eg
            have hcm : oc ≤ 9223372036854775807 := by simpa only [maxLen] using hmm
            have zj := (hJ.out.2.row HR.out (fun _ _ => by simp)).cells (g := g) rfl j (.int .i64 T[j]) (by simp [hjT])
            rw [Addr.add_lit, Nat.zero_add] at zj
            obtain ⟨v, hv⟩ : ∃ v, v = T[j] := ⟨_, rfl⟩
            rw [← hv] at zj
            have kO := cell_rg zj
            have HV : Hid (∃ h : j < T.length, v = T[j]) := Lib.hid ⟨hjT, hv⟩
            have hj1 : (j : Int) < m := by omega
            clear zj hv hjT
            by_cases hvx : v < x
            · go_wp2_with fail
              refine wp_region_quiet_below (by kernel_rfl) (by kernel_rfl) ?_
              repeat (go_big_quiet_step (fail))
              refine wpQuiet_nil ?_
              intro w7 hw7
              have HW := Lib.hid (chg_of_rg hw7)
              clear hw7 kB kG kO
              go_wp2_with fail
              go_roundg (m - (j + 1))
              case measure => omega
              case rel =>
                refine ⟨j + 1, rfl, by omega, by go_num, Lib.hid ⟨fun k h hk => ?_, hJ.out.2.tr HW.out⟩⟩
                by_cases e : k = j
                · subst e
                  obtain ⟨_, e9⟩ := HV.out
                  rw [← e9]; exact hvx
                · exact hJ.out.1 k h (by omega)
            · go_wp2_with fail
              refine wp_region_quiet_below (by kernel_rfl) (by kernel_rfl) ?_
              repeat (go_big_quiet_step (fail))
              refine wpQuiet_nil ?_
              intro w7 hw7
              have HC7 := Lib.hid (hJ.out.2.tr (chg_of_rg hw7))
              have HJ : Hid ((∀ k (h : k < T.length), k < j → T[k] < x) ∧ ∀ h : j < T.length, x ≤ T[j]) := Lib.hid ⟨hJ.out.1, fun h => by obtain ⟨_, e9⟩ := HV.out; rw [← e9]; omega⟩
              have hocj : ¬ oc = j := by omega
              have hocj2 : (j : Int) ≤ oc := by omega
              clear hw7 kB kG kO hJ
              by_cases hj0 : j = 0
              · subst hj0
                have hTm9 := HTm.out
                have hr7 := HC7.out.row HR.out (fun _ _ => by simp)
                have HS : Hid (w7.cell? ⟨B, 0, none⟩ = some (.slice (some ⟨G, 0, none⟩) n c) ∧ w7.cell? ⟨G, i * 6, none⟩ = some (.int .i64 x) ∧ n ≤ c ∧ (i : Int) < n ∧ b ≤ w7.heap.size ∧ (∀ W, Chg [] w7 W → ∀ bb, ((some ⟨g, 0, none⟩) : Option Addr) = some bb → ∀ q u, ((T.drop 0).map (Value.int .i64))[q]? = some u → W.cell? (bb.add q) = some u) ∧ True) := Lib.hid ⟨HC7.out.cell HK.out.1 (by simp), HC7.out.cell HK.out.2 (by simp), hnc9, by omega, by have := HC7.out.size; have := HQ.out.2.2.size; have := HB.out; omega, (fun W hW bb hbb => by cases hbb; have := (cellsPart (hW.row hr7 (fun _ _ => by simp)) 0).1; intro q u hu; rw [List.drop_zero] at hu; exact World.ownsRow.cells (hW.row hr7 (fun _ _ => by simp)) (g := g) rfl q u hu), (trivial)⟩
                clear hr7 hTm9
                go_wp2_with fail
                refine wp_region_st (by kernel_rfl) (by kernel_rfl) [49, 50, 51, 52, 53, 54, 55, 56, 57, 58, 59, 60, 61, 8] (by kernel_rfl) (fun rI rV rW => match rI with | 0 => rV = .pointer (some ⟨B, 0, none⟩) | 1 => rV = .pointer (some ⟨B, 0, none⟩) | 2 => rV = .pointer (some ⟨B, 0, none⟩) | 3 => rV = .slice (some ⟨G, 0, none⟩) n c | 4 => rV = .int .i64 i | 5 => rV = .pointer (some ⟨G, i * 6, none⟩) | 6 => rV = .pointer (some ⟨G, i * 6, none⟩) | 7 => rV = .int .i64 x | 8 => ∃ b57, rV = .slice (some ⟨b57, 0, none⟩) 1 1 ∧ w7.heap.size ≤ b57 ∧ rW.heap[b57]? = some (.cells #[.int .i64 x] 3 (0, 0)) | 9 => rV = .slice (some ⟨g, 0, none⟩) m oc | 10 => rV = .int .i64 0 | 11 => rV = .slice (some ⟨g, 0, none⟩) m oc | 12 => ∃ a61 c61, rV = .slice a61 (1 + m) c61 ∧ rW.ownsRow b 3 1 (.slice a61 (1 + m) c61) (1 + m) ([.int .i64 x] ++ (T.drop 0).map (Value.int .i64)) | 13 => ∃ a8 c8, rV = .slice a8 (1 + m) c8 ∧ rW.ownsRow b 3 1 (.slice a8 (1 + m) c8) (1 + m) ([.int .i64 x] ++ (T.drop 0).map (Value.int .i64)) | _ => True) ?hS0 ?hstep0 ?hdone0
                case hS0 =>
                  intro rI rV rW rW' hc rP
                  match rI, rP with
                  | 0, rP => exact rP
                  | 1, rP => exact rP
                  | 2, rP => exact rP
                  | 3, rP => exact rP
                  | 4, rP => exact rP
                  | 5, rP => exact rP
                  | 6, rP => exact rP
                  | 7, rP => exact rP
                  | 8, rP => exact (by obtain ⟨b57, e9, hp⟩ := rP; exact ⟨b57, e9, ⟨hp.1, hc.heap hp.2 (by simp)⟩⟩)
                  | 9, rP => exact rP
                  | 10, rP => exact rP
                  | 11, rP => exact rP
                  | 12, rP => exact (by obtain ⟨a61, c61, e9, hp⟩ := rP; exact ⟨a61, c61, e9, hc.row hp (fun _ _ => by simp)⟩)
                  | 13, rP => exact (by obtain ⟨a8, c8, e9, hp⟩ := rP; exact ⟨a8, c8, e9, hc.row hp (fun _ _ => by simp)⟩)
                  | _ + 14, _ => trivial
                case hstep0 =>
                  intro rI rH us W hC hdep K hK
                  have hiN : rI < 14 := rH
                  simp only [actU, Act.put, List.setIfInBounds_toArray, List.set_cons_succ, List.set_cons_zero, Nat.reduceAdd] at hK ⊢
                  have kB := hC.cell HS.out.1 (by simp)
                  have kG := hC.cell HS.out.2.1 (by simp)
                  have hnc := HS.out.2.2.1
                  have hin1 := HS.out.2.2.2.1
                  rcases (show rI = 0 ∨ rI = 1 ∨ rI = 2 ∨ rI = 3 ∨ rI = 4 ∨ rI = 5 ∨ rI = 6 ∨ rI = 7 ∨ rI = 8 ∨ rI = 9 ∨ rI = 10 ∨ rI = 11 ∨ rI = 12 ∨ rI = 13 by omega) with rfl | rfl | rfl | rfl | rfl | rfl | rfl | rfl | rfl | rfl | rfl | rfl | rfl | rfl
                  · simp only [List.getD_cons_succ, List.getD_cons_zero, List.setIfInBounds_toArray, List.set_cons_succ, List.set_cons_zero] at hK ⊢
                    refine wpOp_at rfl rfl ?_
                    go_simp
                    exact hK _ _ _ rfl (Chg.refl _ _) rfl
                  · have l0 := hdep 0 (by kernel_rfl)
                    replace l0 : us 0 = .pointer (some ⟨B, 0, none⟩) := l0
                    simp only [List.getD_cons_succ, List.getD_cons_zero, List.setIfInBounds_toArray, List.set_cons_succ, List.set_cons_zero, l0] at hK ⊢
                    refine wpOp_at rfl rfl ?_
                    go_simp
                    exact hK _ _ _ rfl (Chg.refl _ _) rfl
                  · have l1 := hdep 1 (by kernel_rfl)
                    replace l1 : us 1 = .pointer (some ⟨B, 0, none⟩) := l1
                    simp only [List.getD_cons_succ, List.getD_cons_zero, List.setIfInBounds_toArray, List.set_cons_succ, List.set_cons_zero, l1] at hK ⊢
                    refine wpOp_at rfl rfl ?_
                    go_simp
                    exact hK _ _ _ rfl (Chg.refl _ _) rfl
                  · have l2 := hdep 2 (by kernel_rfl)
                    replace l2 : us 2 = .pointer (some ⟨B, 0, none⟩) := l2
                    simp only [List.getD_cons_succ, List.getD_cons_zero, List.setIfInBounds_toArray, List.set_cons_succ, List.set_cons_zero, l2] at hK ⊢
                    refine wpOp_at rfl rfl ?_
                    go_simp
                    exact hK _ _ _ rfl (Chg.refl _ _) rfl
                  · simp only [List.getD_cons_succ, List.getD_cons_zero, List.setIfInBounds_toArray, List.set_cons_succ, List.set_cons_zero] at hK ⊢
                    refine wpOp_at rfl rfl ?_
                    go_simp
                    exact hK _ _ _ rfl (Chg.refl _ _) rfl
                  · have l3 := hdep 3 (by kernel_rfl)
                    replace l3 : us 3 = .slice (some ⟨G, 0, none⟩) n c := l3
                    have l4 := hdep 4 (by kernel_rfl)
                    replace l4 : us 4 = .int .i64 i := l4
                    simp only [List.getD_cons_succ, List.getD_cons_zero, List.setIfInBounds_toArray, List.set_cons_succ, List.set_cons_zero, l3, l4] at hK ⊢
                    refine wpOp_at rfl rfl ?_
                    go_simp
                    exact hK _ _ _ rfl (Chg.refl _ _) rfl
                  · have l5 := hdep 5 (by kernel_rfl)
                    replace l5 : us 5 = .pointer (some ⟨G, i * 6, none⟩) := l5
                    simp only [List.getD_cons_succ, List.getD_cons_zero, List.setIfInBounds_toArray, List.set_cons_succ, List.set_cons_zero, l5] at hK ⊢
                    refine wpOp_at rfl rfl ?_
                    go_simp
                    exact hK _ _ _ rfl (Chg.refl _ _) rfl
                  · have l6 := hdep 6 (by kernel_rfl)
                    replace l6 : us 6 = .pointer (some ⟨G, i * 6, none⟩) := l6
                    simp only [List.getD_cons_succ, List.getD_cons_zero, List.setIfInBounds_toArray, List.set_cons_succ, List.set_cons_zero, l6] at hK ⊢
                    refine wpOp_at rfl rfl ?_
                    go_simp
                    exact hK _ _ _ rfl (Chg.refl _ _) rfl
                  · have l7 := hdep 7 (by kernel_rfl)
                    replace l7 : us 7 = .int .i64 x := l7
                    simp only [List.getD_cons_succ, List.getD_cons_zero, List.setIfInBounds_toArray, List.set_cons_succ, List.set_cons_zero, l7] at hK ⊢
                    refine wpOp_at rfl rfl ?_
                    go_simp
                    exact hK _ _ _ rfl ((Chg.refl _ _).alloc _) ⟨W.heap.size, rfl, ⟨hC.size, heap_alloc_same _ _⟩⟩
                  · simp only [List.getD_cons_succ, List.getD_cons_zero, List.setIfInBounds_toArray, List.set_cons_succ, List.set_cons_zero] at hK ⊢
                    refine wpOp_at rfl rfl ?_
                    go_simp
                    exact hK _ _ _ rfl (Chg.refl _ _) rfl
                  · simp only [List.getD_cons_succ, List.getD_cons_zero, List.setIfInBounds_toArray, List.set_cons_succ, List.set_cons_zero] at hK ⊢
                    refine wpOp_at rfl rfl ?_
                    go_simp
                    exact hK _ _ _ rfl (Chg.refl _ _) rfl
                  · have l9 := hdep 9 (by kernel_rfl)
                    replace l9 : us 9 = .slice (some ⟨g, 0, none⟩) m oc := l9
                    have l10 := hdep 10 (by kernel_rfl)
                    replace l10 : us 10 = .int .i64 0 := l10
                    simp only [List.getD_cons_succ, List.getD_cons_zero, List.setIfInBounds_toArray, List.set_cons_succ, List.set_cons_zero, l9, l10] at hK ⊢
                    refine wpOp_at rfl rfl ?_
                    go_simp
                    exact hK _ _ _ rfl (Chg.refl _ _) rfl
                  · have l8 := hdep 8 (by kernel_rfl)
                    obtain ⟨b57, l8, p8⟩ := l8
                    have l11 := hdep 11 (by kernel_rfl)
                    replace l11 : us 11 = .slice (some ⟨g, 0, none⟩) m oc := l11
                    simp only [List.getD_cons_succ, List.getD_cons_zero, List.setIfInBounds_toArray, List.set_cons_succ, List.set_cons_zero, l8, l11] at hK ⊢
                    refine wpOp_at rfl rfl ?_
                    refine wp_append_full _ _ 22 rfl 3 i0 _ 1 8 Try.underlying22 hi0 hz0 hz1 hz2 rfl (by decide) b57 1 [.int .i64 x] rfl p8.2 rfl (by decide) b (by have := p8.1; have := HS.out.2.2.2.2.1; omega) (some ⟨g, 0, none⟩) m oc ((T.drop 0).map (Value.int .i64)) rfl (by rw [List.length_map, List.length_drop]; have := HTm.out; omega) (fun h => by cases h) (HS.out.2.2.2.2.2.1 W hC) oneI (by simp only [maxLen]; omega) (by omega) ?_
                    intro a61 c61 wz hr61 hz61
                    exact hK _ _ _ rfl hz61 ⟨a61, c61, rfl, hr61⟩
                  · have l12 := hdep 12 (by kernel_rfl)
                    obtain ⟨a61, c61, l12, p12⟩ := l12
                    simp only [List.getD_cons_succ, List.getD_cons_zero, List.setIfInBounds_toArray, List.set_cons_succ, List.set_cons_zero, l12] at hK ⊢
                    refine wpOp_at rfl rfl ?_
                    go_simp
                    exact hK _ _ _ rfl (Chg.refl _ _) ⟨a61, c61, rfl, p12⟩
                case hdone0 =>
                  intro us W hC hall
                  have l0 := hall 0 (by decide)
                  replace l0 : us 0 = .pointer (some ⟨B, 0, none⟩) := l0
                  have l1 := hall 1 (by decide)
                  replace l1 : us 1 = .pointer (some ⟨B, 0, none⟩) := l1
                  have l2 := hall 2 (by decide)
                  replace l2 : us 2 = .pointer (some ⟨B, 0, none⟩) := l2
                  have l3 := hall 3 (by decide)
                  replace l3 : us 3 = .slice (some ⟨G, 0, none⟩) n c := l3
                  have l4 := hall 4 (by decide)
                  replace l4 : us 4 = .int .i64 i := l4
                  have l5 := hall 5 (by decide)
                  replace l5 : us 5 = .pointer (some ⟨G, i * 6, none⟩) := l5
                  have l6 := hall 6 (by decide)
                  replace l6 : us 6 = .pointer (some ⟨G, i * 6, none⟩) := l6
                  have l7 := hall 7 (by decide)
                  replace l7 : us 7 = .int .i64 x := l7
                  have l8 := hall 8 (by decide)
                  obtain ⟨b57, l8, p8⟩ := l8
                  have l9 := hall 9 (by decide)
                  replace l9 : us 9 = .slice (some ⟨g, 0, none⟩) m oc := l9
                  have l10 := hall 10 (by decide)
                  replace l10 : us 10 = .int .i64 0 := l10
                  have l11 := hall 11 (by decide)
                  replace l11 : us 11 = .slice (some ⟨g, 0, none⟩) m oc := l11
                  have l12 := hall 12 (by decide)
                  obtain ⟨a61, c61, l12, p12⟩ := l12
                  have l13 := hall 13 (by decide)
                  obtain ⟨a8, c8, l13, p13⟩ := l13
                  simp only [actU, Act.put, List.setIfInBounds_toArray, List.set_cons_succ, List.set_cons_zero, Nat.reduceAdd, l0, l1, l2, l3, l4, l5, l6, l7, l8, l9, l10, l11, l12, l13]
                  clear hall l0 l1 l2 l3 l4 l5 l6 l7 l8 l9 l10 l11 l12 l13
                  obtain ⟨g8, rfl⟩ : ∃ g8, a8 = some ⟨g8, 0, none⟩ := by
                    rcases p13.2 with ⟨h0, h1⟩ | ⟨g8, _, _, h0, _⟩
                    · exact absurd h1 (by omega)
                    · cases h0; exact ⟨g8, rfl⟩
                  have hbW : b ≤ W.heap.size := Nat.le_trans HS.out.2.2.2.2.1 hC.size
                  have HP := Lib.hid (And.intro p13 (And.intro hC hbW))
                  clear p8 p12 p13 hC hbW
                  go_wp2_with (at_builtin; refine wpList_append_full rfl _ _ 22 rfl 3 i0 _ 1 8 Try.underlying22 hi0 hz0 hz1 hz2 rfl (by decide) W.heap.size 0 [] rfl (heap_alloc_same _ _) rfl (by decide) b HP.out.2.2 (some ⟨g8, 0, none⟩) (1 + m) c8 ([.int .i64 x] ++ (T.drop 0).map (Value.int .i64)) rfl HP.out.1.1 (fun h => by cases h) (fun bb hbb => by cases hbb; exact World.ownsRow.cells ((((Chg.refl [] W).alloc (.cells #[] 3)).row HP.out.1 (fun _ _ => by simp))) (g := g8) rfl) (fun u hu => (List.mem_append.1 hu).elim (fun h => by simp only [List.mem_singleton] at h; subst h; rfl) (oneI u)) (by simp only [maxLen]; omega) (by omega) ?_; intro a68 c68 wB hrB hcB; rw [Nat.zero_add, List.nil_append] at hrB; rw [Nat.zero_add]; have HX := Lib.hid (And.intro hrB (((Chg.refl [] W).alloc (.cells #[] 3)).tr hcB)); clear hrB hcB)
                  go_roundg (n - (i + 1))
                  case measure => omega
                  case rel =>
                    have hTm : T.length = m := HTm.out
                    have hE : insS T x = T.take 0 ++ x :: T.drop 0 := insS_cut (by omega) HJ.out.1 HJ.out.2
                    have hwz := HQ.out
                    refine ⟨i + 1, 1 + m, c68, a68, rfl, by omega, rfl, by go_num, Lib.hid ⟨insS T x, ?_, ?_, ?_, ?_, fun h => by omega, ?_⟩⟩
                    · rw [HX2.out, insAll_snoc, ← hwz.1]
                    · rw [hE]; simp only [List.length_append, List.length_cons, List.length_take, List.length_drop]; omega
                    · have := hwz.2.1; omega
                    · rw [hE]; have := HX.out.1; simpa using this
                    · exact ((hwz.2.2.tr HC7.out).tr HP.out.2.1).tr HX.out.2
              · skip
                have hTm9 := HTm.out
                have hr7 := HC7.out.row HR.out (fun _ _ => by simp)
                have HS : Hid (w7.cell? ⟨B, 0, none⟩ = some (.slice (some ⟨G, 0, none⟩) n c) ∧ w7.cell? ⟨G, i * 6, none⟩ = some (.int .i64 x) ∧ n ≤ c ∧ (i : Int) < n ∧ b ≤ w7.heap.size ∧ (∀ W, Chg [] w7 W → ∀ bb, ((some ⟨g, j, none⟩) : Option Addr) = some bb → ∀ q u, ((T.drop j).map (Value.int .i64))[q]? = some u → W.cell? (bb.add q) = some u) ∧ (∀ W, Chg [] w7 W → ∀ bb, ((some ⟨g, 0, none⟩) : Option Addr) = some bb → ∀ q u, ((T.take j).map (Value.int .i64))[q]? = some u → W.cell? (bb.add q) = some u)) := Lib.hid ⟨HC7.out.cell HK.out.1 (by simp), HC7.out.cell HK.out.2 (by simp), hnc9, by omega, by have := HC7.out.size; have := HQ.out.2.2.size; have := HB.out; omega, (fun W hW bb hbb => by cases hbb; exact (cellsPart (hW.row hr7 (fun _ _ => by simp)) j).2), (fun W hW bb hbb => by cases hbb; exact (cellsPart (hW.row hr7 (fun _ _ => by simp)) j).1)⟩
                clear hr7 hTm9
                go_wp2_with fail
                refine wp_region_st (by kernel_rfl) (by kernel_rfl) [49, 50, 51, 52, 53, 54, 55, 56, 57, 58, 59, 60, 61, 8] (by kernel_rfl) (fun rI rV rW => match rI with | 0 => rV = .pointer (some ⟨B, 0, none⟩) | 1 => rV = .pointer (some ⟨B, 0, none⟩) | 2 => rV = .pointer (some ⟨B, 0, none⟩) | 3 => rV = .slice (some ⟨G, 0, none⟩) n c | 4 => rV = .int .i64 i | 5 => rV = .pointer (some ⟨G, i * 6, none⟩) | 6 => rV = .pointer (some ⟨G, i * 6, none⟩) | 7 => rV = .int .i64 x | 8 => ∃ b57, rV = .slice (some ⟨b57, 0, none⟩) 1 1 ∧ w7.heap.size ≤ b57 ∧ rW.heap[b57]? = some (.cells #[.int .i64 x] 3 (0, 0)) | 9 => rV = .slice (some ⟨g, 0, none⟩) m oc | 10 => rV = .int .i64 j | 11 => rV = .slice (some ⟨g, j, none⟩) (m - j) (oc - j) | 12 => ∃ a61 c61, rV = .slice a61 (1 + (m - j)) c61 ∧ rW.ownsRow b 3 1 (.slice a61 (1 + (m - j)) c61) (1 + (m - j)) ([.int .i64 x] ++ (T.drop j).map (Value.int .i64)) | 13 => ∃ a8 c8, rV = .slice a8 (1 + (m - j)) c8 ∧ rW.ownsRow b 3 1 (.slice a8 (1 + (m - j)) c8) (1 + (m - j)) ([.int .i64 x] ++ (T.drop j).map (Value.int .i64)) | _ => True) ?hS0 ?hstep0 ?hdone0
                case hS0 =>
                  intro rI rV rW rW' hc rP
                  match rI, rP with
                  | 0, rP => exact rP
                  | 1, rP => exact rP
                  | 2, rP => exact rP
                  | 3, rP => exact rP
                  | 4, rP => exact rP
                  | 5, rP => exact rP
                  | 6, rP => exact rP
                  | 7, rP => exact rP
                  | 8, rP => exact (by obtain ⟨b57, e9, hp⟩ := rP; exact ⟨b57, e9, ⟨hp.1, hc.heap hp.2 (by simp)⟩⟩)
                  | 9, rP => exact rP
                  | 10, rP => exact rP
                  | 11, rP => exact rP
                  | 12, rP => exact (by obtain ⟨a61, c61, e9, hp⟩ := rP; exact ⟨a61, c61, e9, hc.row hp (fun _ _ => by simp)⟩)
                  | 13, rP => exact (by obtain ⟨a8, c8, e9, hp⟩ := rP; exact ⟨a8, c8, e9, hc.row hp (fun _ _ => by simp)⟩)
                  | _ + 14, _ => trivial
                case hstep0 =>
                  intro rI rH us W hC hdep K hK
                  have hiN : rI < 14 := rH
                  simp only [actU, Act.put, List.setIfInBounds_toArray, List.set_cons_succ, List.set_cons_zero, Nat.reduceAdd] at hK ⊢
                  have kB := hC.cell HS.out.1 (by simp)
                  have kG := hC.cell HS.out.2.1 (by simp)
                  have hnc := HS.out.2.2.1
                  have hin1 := HS.out.2.2.2.1
                  rcases (show rI = 0 ∨ rI = 1 ∨ rI = 2 ∨ rI = 3 ∨ rI = 4 ∨ rI = 5 ∨ rI = 6 ∨ rI = 7 ∨ rI = 8 ∨ rI = 9 ∨ rI = 10 ∨ rI = 11 ∨ rI = 12 ∨ rI = 13 by omega) with rfl | rfl | rfl | rfl | rfl | rfl | rfl | rfl | rfl | rfl | rfl | rfl | rfl | rfl
                  · simp only [List.getD_cons_succ, List.getD_cons_zero, List.setIfInBounds_toArray, List.set_cons_succ, List.set_cons_zero] at hK ⊢
                    refine wpOp_at rfl rfl ?_
                    go_simp
                    exact hK _ _ _ rfl (Chg.refl _ _) rfl
                  · have l0 := hdep 0 (by kernel_rfl)
                    replace l0 : us 0 = .pointer (some ⟨B, 0, none⟩) := l0
                    simp only [List.getD_cons_succ, List.getD_cons_zero, List.setIfInBounds_toArray, List.set_cons_succ, List.set_cons_zero, l0] at hK ⊢
                    refine wpOp_at rfl rfl ?_
                    go_simp
                    exact hK _ _ _ rfl (Chg.refl _ _) rfl
                  · have l1 := hdep 1 (by kernel_rfl)
                    replace l1 : us 1 = .pointer (some ⟨B, 0, none⟩) := l1
                    simp only [List.getD_cons_succ, List.getD_cons_zero, List.setIfInBounds_toArray, List.set_cons_succ, List.set_cons_zero, l1] at hK ⊢
                    refine wpOp_at rfl rfl ?_
                    go_simp
                    exact hK _ _ _ rfl (Chg.refl _ _) rfl
                  · have l2 := hdep 2 (by kernel_rfl)
                    replace l2 : us 2 = .pointer (some ⟨B, 0, none⟩) := l2
                    simp only [List.getD_cons_succ, List.getD_cons_zero, List.setIfInBounds_toArray, List.set_cons_succ, List.set_cons_zero, l2] at hK ⊢
                    refine wpOp_at rfl rfl ?_
                    go_simp
                    exact hK _ _ _ rfl (Chg.refl _ _) rfl
                  · simp only [List.getD_cons_succ, List.getD_cons_zero, List.setIfInBounds_toArray, List.set_cons_succ, List.set_cons_zero] at hK ⊢
                    refine wpOp_at rfl rfl ?_
                    go_simp
                    exact hK _ _ _ rfl (Chg.refl _ _) rfl
                  · have l3 := hdep 3 (by kernel_rfl)
                    replace l3 : us 3 = .slice (some ⟨G, 0, none⟩) n c := l3
                    have l4 := hdep 4 (by kernel_rfl)
                    replace l4 : us 4 = .int .i64 i := l4
                    simp only [List.getD_cons_succ, List.getD_cons_zero, List.setIfInBounds_toArray, List.set_cons_succ, List.set_cons_zero, l3, l4] at hK ⊢
                    refine wpOp_at rfl rfl ?_
                    go_simp
                    exact hK _ _ _ rfl (Chg.refl _ _) rfl
                  · have l5 := hdep 5 (by kernel_rfl)
                    replace l5 : us 5 = .pointer (some ⟨G, i * 6, none⟩) := l5
                    simp only [List.getD_cons_succ, List.getD_cons_zero, List.setIfInBounds_toArray, List.set_cons_succ, List.set_cons_zero, l5] at hK ⊢
                    refine wpOp_at rfl rfl ?_
                    go_simp
                    exact hK _ _ _ rfl (Chg.refl _ _) rfl
                  · have l6 := hdep 6 (by kernel_rfl)
                    replace l6 : us 6 = .pointer (some ⟨G, i * 6, none⟩) := l6
                    simp only [List.getD_cons_succ, List.getD_cons_zero, List.setIfInBounds_toArray, List.set_cons_succ, List.set_cons_zero, l6] at hK ⊢
                    refine wpOp_at rfl rfl ?_
                    go_simp
                    exact hK _ _ _ rfl (Chg.refl _ _) rfl
                  · have l7 := hdep 7 (by kernel_rfl)
                    replace l7 : us 7 = .int .i64 x := l7
                    simp only [List.getD_cons_succ, List.getD_cons_zero, List.setIfInBounds_toArray, List.set_cons_succ, List.set_cons_zero, l7] at hK ⊢
                    refine wpOp_at rfl rfl ?_
                    go_simp
                    exact hK _ _ _ rfl ((Chg.refl _ _).alloc _) ⟨W.heap.size, rfl, ⟨hC.size, heap_alloc_same _ _⟩⟩
                  · simp only [List.getD_cons_succ, List.getD_cons_zero, List.setIfInBounds_toArray, List.set_cons_succ, List.set_cons_zero] at hK ⊢
                    refine wpOp_at rfl rfl ?_
                    go_simp
                    exact hK _ _ _ rfl (Chg.refl _ _) rfl
                  · simp only [List.getD_cons_succ, List.getD_cons_zero, List.setIfInBounds_toArray, List.set_cons_succ, List.set_cons_zero] at hK ⊢
                    refine wpOp_at rfl rfl ?_
                    go_simp
                    exact hK _ _ _ rfl (Chg.refl _ _) rfl
                  · have l9 := hdep 9 (by kernel_rfl)
                    replace l9 : us 9 = .slice (some ⟨g, 0, none⟩) m oc := l9
                    have l10 := hdep 10 (by kernel_rfl)
                    replace l10 : us 10 = .int .i64 j := l10
                    simp only [List.getD_cons_succ, List.getD_cons_zero, List.setIfInBounds_toArray, List.set_cons_succ, List.set_cons_zero, l9, l10] at hK ⊢
                    refine wpOp_at rfl rfl ?_
                    go_simp
                    exact hK _ _ _ rfl (Chg.refl _ _) rfl
                  · have l8 := hdep 8 (by kernel_rfl)
                    obtain ⟨b57, l8, p8⟩ := l8
                    have l11 := hdep 11 (by kernel_rfl)
                    replace l11 : us 11 = .slice (some ⟨g, j, none⟩) (m - j) (oc - j) := l11
                    simp only [List.getD_cons_succ, List.getD_cons_zero, List.setIfInBounds_toArray, List.set_cons_succ, List.set_cons_zero, l8, l11] at hK ⊢
                    refine wpOp_at rfl rfl ?_
                    refine wp_append_full _ _ 22 rfl 3 i0 _ 1 8 Try.underlying22 hi0 hz0 hz1 hz2 rfl (by decide) b57 1 [.int .i64 x] rfl p8.2 rfl (by decide) b (by have := p8.1; have := HS.out.2.2.2.2.1; omega) (some ⟨g, j, none⟩) (m - j) (oc - j) ((T.drop j).map (Value.int .i64)) rfl (by rw [List.length_map, List.length_drop]; have := HTm.out; omega) (fun h => by cases h) (HS.out.2.2.2.2.2.1 W hC) oneI (by simp only [maxLen]; omega) (by omega) ?_
                    intro a61 c61 wz hr61 hz61
                    exact hK _ _ _ rfl hz61 ⟨a61, c61, rfl, hr61⟩
                  · have l12 := hdep 12 (by kernel_rfl)
                    obtain ⟨a61, c61, l12, p12⟩ := l12
                    simp only [List.getD_cons_succ, List.getD_cons_zero, List.setIfInBounds_toArray, List.set_cons_succ, List.set_cons_zero, l12] at hK ⊢
                    refine wpOp_at rfl rfl ?_
                    go_simp
                    exact hK _ _ _ rfl (Chg.refl _ _) ⟨a61, c61, rfl, p12⟩
                case hdone0 =>
                  intro us W hC hall
                  have l0 := hall 0 (by decide)
                  replace l0 : us 0 = .pointer (some ⟨B, 0, none⟩) := l0
                  have l1 := hall 1 (by decide)
                  replace l1 : us 1 = .pointer (some ⟨B, 0, none⟩) := l1
                  have l2 := hall 2 (by decide)
                  replace l2 : us 2 = .pointer (some ⟨B, 0, none⟩) := l2
                  have l3 := hall 3 (by decide)
                  replace l3 : us 3 = .slice (some ⟨G, 0, none⟩) n c := l3
                  have l4 := hall 4 (by decide)
                  replace l4 : us 4 = .int .i64 i := l4
                  have l5 := hall 5 (by decide)
                  replace l5 : us 5 = .pointer (some ⟨G, i * 6, none⟩) := l5
                  have l6 := hall 6 (by decide)
                  replace l6 : us 6 = .pointer (some ⟨G, i * 6, none⟩) := l6
                  have l7 := hall 7 (by decide)
                  replace l7 : us 7 = .int .i64 x := l7
                  have l8 := hall 8 (by decide)
                  obtain ⟨b57, l8, p8⟩ := l8
                  have l9 := hall 9 (by decide)
                  replace l9 : us 9 = .slice (some ⟨g, 0, none⟩) m oc := l9
                  have l10 := hall 10 (by decide)
                  replace l10 : us 10 = .int .i64 j := l10
                  have l11 := hall 11 (by decide)
                  replace l11 : us 11 = .slice (some ⟨g, j, none⟩) (m - j) (oc - j) := l11
                  have l12 := hall 12 (by decide)
                  obtain ⟨a61, c61, l12, p12⟩ := l12
                  have l13 := hall 13 (by decide)
                  obtain ⟨a8, c8, l13, p13⟩ := l13
                  simp only [actU, Act.put, List.setIfInBounds_toArray, List.set_cons_succ, List.set_cons_zero, Nat.reduceAdd, l0, l1, l2, l3, l4, l5, l6, l7, l8, l9, l10, l11, l12, l13]
                  clear hall l0 l1 l2 l3 l4 l5 l6 l7 l8 l9 l10 l11 l12 l13
                  obtain ⟨g8, rfl⟩ : ∃ g8, a8 = some ⟨g8, 0, none⟩ := by
                    rcases p13.2 with ⟨h0, h1⟩ | ⟨g8, _, _, h0, _⟩
                    · exact absurd h1 (by omega)
                    · cases h0; exact ⟨g8, rfl⟩
                  have hbW : b ≤ W.heap.size := Nat.le_trans HS.out.2.2.2.2.1 hC.size
                  have HP := Lib.hid (And.intro p13 (And.intro hC hbW))
                  clear p8 p12 p13 hC hbW
                  go_wp2_with (at_builtin; first | (refine wpList_append_full rfl _ _ 22 rfl 3 i0 _ 1 8 Try.underlying22 hi0 hz0 hz1 hz2 rfl (by decide) W.heap.size 0 [] rfl (heap_alloc_same _ _) rfl (by decide) b HP.out.2.2 (some ⟨g, 0, none⟩) j oc ((T.take j).map (Value.int .i64)) rfl (by rw [List.length_map, List.length_take]; have := HTm.out; omega) (fun h => by cases h) (HS.out.2.2.2.2.2.2 _ (HP.out.2.1.alloc _)) oneI (by simp only [maxLen]; omega) (by omega) ?_; intro a66 c66 wA hrA hcA; rw [Nat.zero_add, List.nil_append] at hrA; rw [Nat.zero_add]; have HA := Lib.hid (And.intro hrA (And.intro trivial (((Chg.refl [] W).alloc (.cells #[] 3)).tr hcA))); clear hrA hcA) | (refine wpList_append_two rfl _ _ 22 rfl b 3 i0 _ 1 8 Try.underlying22 hi0 hz0 hz1 hz2 rfl (by decide) (.slice a66 j c66) j ((T.take j).map (Value.int .i64)) rfl HA.out.1 (some ⟨g8, 0, none⟩) (1 + (m - j)) c8 ([.int .i64 x] ++ (T.drop j).map (Value.int .i64)) rfl HP.out.1.1 (fun h => by cases h) (fun bb hbb => by cases hbb; exact World.ownsRow.cells (HA.out.2.2.row HP.out.1 (fun _ _ => by simp)) (g := g8) rfl) (fun u hu => by exact (List.mem_append.1 hu).elim (fun h => by simp only [List.mem_singleton] at h; subst h; rfl) (oneI u)) (by simp only [maxLen]; omega) (by omega) (Nat.le_trans HP.out.2.2 HA.out.2.2.size) ?_; intro v' wB hrB hgB hdB; obtain ⟨a68, c68, rfl⟩ := ownsRow_slice hrB; have HX := Lib.hid (And.intro hrB hgB); clear hrB hgB hdB))
                  go_roundg (n - (i + 1))
                  case measure => omega
                  case rel =>
                    have hTm : T.length = m := HTm.out
                    have hE : insS T x = T.take j ++ x :: T.drop j := insS_cut (by omega) HJ.out.1 HJ.out.2
                    have hwz := HQ.out
                    refine ⟨i + 1, j + (1 + (m - j)), c68, a68, rfl, by omega, rfl, by go_num, Lib.hid ⟨insS T x, ?_, ?_, ?_, ?_, fun h => by omega, ?_⟩⟩
                    · rw [HX2.out, insAll_snoc, ← hwz.1]
                    · rw [hE]; simp only [List.length_append, List.length_cons, List.length_take, List.length_drop]; omega
                    · have := hwz.2.1; omega
                    · rw [hE]; have := HX.out.1; simpa using this
                    · exact (((hwz.2.2.tr HC7.out).tr HP.out.2.1).tr HA.out.2.2).grown HX.out.2 (fun k hk => .inr (by have := (row_beyond HA.out.1 hk).1; have := HB.out; omega))
          · obtain rfl : j = m := by omega
            go_wp2_with fail
            refine wp_region_quiet_below (by kernel_rfl) (by kernel_rfl) ?_
            repeat (go_big_quiet_step (fail))
            refine wpQuiet_nil ?_
            intro w7 hw7
            have HC7 := Lib.hid (hJ.out.2.tr (chg_of_rg hw7))
            have HJ : Hid ((∀ k (h : k < T.length), k < j → T[k] < x) ∧ ∀ h : j < T.length, x ≤ T[j]) := Lib.hid ⟨hJ.out.1, fun h => by have := HTm.out; omega⟩
            clear hw7 kB kG hJ
            by_cases hj0 : j = 0
            · subst hj0
              obtain ⟨rfl, rfl⟩ := hmz rfl
              have hTm9 := HTm.out
              have hr7 := HC7.out.row HR.out (fun _ _ => by simp)
              have HS : Hid (w7.cell? ⟨B, 0, none⟩ = some (.slice (some ⟨G, 0, none⟩) n c) ∧ w7.cell? ⟨G, i * 6, none⟩ = some (.int .i64 x) ∧ n ≤ c ∧ (i : Int) < n ∧ b ≤ w7.heap.size ∧ True ∧ True) := Lib.hid ⟨HC7.out.cell HK.out.1 (by simp), HC7.out.cell HK.out.2 (by simp), hnc9, by omega, by have := HC7.out.size; have := HQ.out.2.2.size; have := HB.out; omega, (trivial), (trivial)⟩
              clear hr7 hTm9
              go_wp2_with fail
              refine wp_region_st (by kernel_rfl) (by kernel_rfl) [49, 50, 51, 52, 53, 54, 55, 56, 57, 58, 59, 60, 61, 8] (by kernel_rfl) (fun rI rV rW => match rI with | 0 => rV = .pointer (some ⟨B, 0, none⟩) | 1 => rV = .pointer (some ⟨B, 0, none⟩) | 2 => rV = .pointer (some ⟨B, 0, none⟩) | 3 => rV = .slice (some ⟨G, 0, none⟩) n c | 4 => rV = .int .i64 i | 5 => rV = .pointer (some ⟨G, i * 6, none⟩) | 6 => rV = .pointer (some ⟨G, i * 6, none⟩) | 7 => rV = .int .i64 x | 8 => ∃ b57, rV = .slice (some ⟨b57, 0, none⟩) 1 1 ∧ w7.heap.size ≤ b57 ∧ rW.heap[b57]? = some (.cells #[.int .i64 x] 3 (0, 0)) | 9 => rV = .slice none 0 0 | 10 => rV = .int .i64 0 | 11 => rV = .slice none 0 0 | 12 => ∃ a61 c61, rV = .slice a61 (1 + 0) c61 ∧ rW.ownsRow b 3 1 (.slice a61 (1 + 0) c61) (1 + 0) ([.int .i64 x] ++ (T.drop 0).map (Value.int .i64)) | 13 => ∃ a8 c8, rV = .slice a8 (1 + 0) c8 ∧ rW.ownsRow b 3 1 (.slice a8 (1 + 0) c8) (1 + 0) ([.int .i64 x] ++ (T.drop 0).map (Value.int .i64)) | _ => True) ?hS0 ?hstep0 ?hdone0
              case hS0 =>
                intro rI rV rW rW' hc rP
                match rI, rP with
                | 0, rP => exact rP
                | 1, rP => exact rP
                | 2, rP => exact rP
                | 3, rP => exact rP
                | 4, rP => exact rP
                | 5, rP => exact rP
                | 6, rP => exact rP
                | 7, rP => exact rP
                | 8, rP => exact (by obtain ⟨b57, e9, hp⟩ := rP; exact ⟨b57, e9, ⟨hp.1, hc.heap hp.2 (by simp)⟩⟩)
                | 9, rP => exact rP
                | 10, rP => exact rP
                | 11, rP => exact rP
                | 12, rP => exact (by obtain ⟨a61, c61, e9, hp⟩ := rP; exact ⟨a61, c61, e9, hc.row hp (fun _ _ => by simp)⟩)
                | 13, rP => exact (by obtain ⟨a8, c8, e9, hp⟩ := rP; exact ⟨a8, c8, e9, hc.row hp (fun _ _ => by simp)⟩)
                | _ + 14, _ => trivial
              case hstep0 =>
                intro rI rH us W hC hdep K hK
                have hiN : rI < 14 := rH
                simp only [actU, Act.put, List.setIfInBounds_toArray, List.set_cons_succ, List.set_cons_zero, Nat.reduceAdd] at hK ⊢
                have kB := hC.cell HS.out.1 (by simp)
                have kG := hC.cell HS.out.2.1 (by simp)
                have hnc := HS.out.2.2.1
                have hin1 := HS.out.2.2.2.1
                rcases (show rI = 0 ∨ rI = 1 ∨ rI = 2 ∨ rI = 3 ∨ rI = 4 ∨ rI = 5 ∨ rI = 6 ∨ rI = 7 ∨ rI = 8 ∨ rI = 9 ∨ rI = 10 ∨ rI = 11 ∨ rI = 12 ∨ rI = 13 by omega) with rfl | rfl | rfl | rfl | rfl | rfl | rfl | rfl | rfl | rfl | rfl | rfl | rfl | rfl
                · simp only [List.getD_cons_succ, List.getD_cons_zero, List.setIfInBounds_toArray, List.set_cons_succ, List.set_cons_zero] at hK ⊢
                  refine wpOp_at rfl rfl ?_
                  go_simp
                  exact hK _ _ _ rfl (Chg.refl _ _) rfl
                · have l0 := hdep 0 (by kernel_rfl)
                  replace l0 : us 0 = .pointer (some ⟨B, 0, none⟩) := l0
                  simp only [List.getD_cons_succ, List.getD_cons_zero, List.setIfInBounds_toArray, List.set_cons_succ, List.set_cons_zero, l0] at hK ⊢
                  refine wpOp_at rfl rfl ?_
                  go_simp
                  exact hK _ _ _ rfl (Chg.refl _ _) rfl
                · have l1 := hdep 1 (by kernel_rfl)
                  replace l1 : us 1 = .pointer (some ⟨B, 0, none⟩) := l1
                  simp only [List.getD_cons_succ, List.getD_cons_zero, List.setIfInBounds_toArray, List.set_cons_succ, List.set_cons_zero, l1] at hK ⊢
                  refine wpOp_at rfl rfl ?_
                  go_simp
                  exact hK _ _ _ rfl (Chg.refl _ _) rfl
                · have l2 := hdep 2 (by kernel_rfl)
                  replace l2 : us 2 = .pointer (some ⟨B, 0, none⟩) := l2
                  simp only [List.getD_cons_succ, List.getD_cons_zero, List.setIfInBounds_toArray, List.set_cons_succ, List.set_cons_zero, l2] at hK ⊢
                  refine wpOp_at rfl rfl ?_
                  go_simp
                  exact hK _ _ _ rfl (Chg.refl _ _) rfl
                · simp only [List.getD_cons_succ, List.getD_cons_zero, List.setIfInBounds_toArray, List.set_cons_succ, List.set_cons_zero] at hK ⊢
                  refine wpOp_at rfl rfl ?_
                  go_simp
                  exact hK _ _ _ rfl (Chg.refl _ _) rfl
                · have l3 := hdep 3 (by kernel_rfl)
                  replace l3 : us 3 = .slice (some ⟨G, 0, none⟩) n c := l3
                  have l4 := hdep 4 (by kernel_rfl)
                  replace l4 : us 4 = .int .i64 i := l4
                  simp only [List.getD_cons_succ, List.getD_cons_zero, List.setIfInBounds_toArray, List.set_cons_succ, List.set_cons_zero, l3, l4] at hK ⊢
                  refine wpOp_at rfl rfl ?_
                  go_simp
                  exact hK _ _ _ rfl (Chg.refl _ _) rfl
                · have l5 := hdep 5 (by kernel_rfl)
                  replace l5 : us 5 = .pointer (some ⟨G, i * 6, none⟩) := l5
                  simp only [List.getD_cons_succ, List.getD_cons_zero, List.setIfInBounds_toArray, List.set_cons_succ, List.set_cons_zero, l5] at hK ⊢
                  refine wpOp_at rfl rfl ?_
                  go_simp
                  exact hK _ _ _ rfl (Chg.refl _ _) rfl
                · have l6 := hdep 6 (by kernel_rfl)
                  replace l6 : us 6 = .pointer (some ⟨G, i * 6, none⟩) := l6
                  simp only [List.getD_cons_succ, List.getD_cons_zero, List.setIfInBounds_toArray, List.set_cons_succ, List.set_cons_zero, l6] at hK ⊢
                  refine wpOp_at rfl rfl ?_
                  go_simp
                  exact hK _ _ _ rfl (Chg.refl _ _) rfl
                · have l7 := hdep 7 (by kernel_rfl)
                  replace l7 : us 7 = .int .i64 x := l7
                  simp only [List.getD_cons_succ, List.getD_cons_zero, List.setIfInBounds_toArray, List.set_cons_succ, List.set_cons_zero, l7] at hK ⊢
                  refine wpOp_at rfl rfl ?_
                  go_simp
                  exact hK _ _ _ rfl ((Chg.refl _ _).alloc _) ⟨W.heap.size, rfl, ⟨hC.size, heap_alloc_same _ _⟩⟩
                · simp only [List.getD_cons_succ, List.getD_cons_zero, List.setIfInBounds_toArray, List.set_cons_succ, List.set_cons_zero] at hK ⊢
                  refine wpOp_at rfl rfl ?_
                  go_simp
                  exact hK _ _ _ rfl (Chg.refl _ _) rfl
                · simp only [List.getD_cons_succ, List.getD_cons_zero, List.setIfInBounds_toArray, List.set_cons_succ, List.set_cons_zero] at hK ⊢
                  refine wpOp_at rfl rfl ?_
                  go_simp
                  exact hK _ _ _ rfl (Chg.refl _ _) rfl
                · have l9 := hdep 9 (by kernel_rfl)
                  replace l9 : us 9 = .slice none 0 0 := l9
                  have l10 := hdep 10 (by kernel_rfl)
                  replace l10 : us 10 = .int .i64 0 := l10
                  simp only [List.getD_cons_succ, List.getD_cons_zero, List.setIfInBounds_toArray, List.set_cons_succ, List.set_cons_zero, l9, l10] at hK ⊢
                  refine wpOp_at rfl rfl ?_
                  go_simp
                  exact hK _ _ _ rfl (Chg.refl _ _) rfl
                · have l8 := hdep 8 (by kernel_rfl)
                  obtain ⟨b57, l8, p8⟩ := l8
                  have l11 := hdep 11 (by kernel_rfl)
                  replace l11 : us 11 = .slice none 0 0 := l11
                  simp only [List.getD_cons_succ, List.getD_cons_zero, List.setIfInBounds_toArray, List.set_cons_succ, List.set_cons_zero, l8, l11] at hK ⊢
                  refine wpOp_at rfl rfl ?_
                  refine wp_append_full _ _ 22 rfl 3 i0 _ 1 8 Try.underlying22 hi0 hz0 hz1 hz2 rfl (by decide) b57 1 [.int .i64 x] rfl p8.2 rfl (by decide) b (by have := p8.1; have := HS.out.2.2.2.2.1; omega) none 0 0 ((T.drop 0).map (Value.int .i64)) rfl (by rw [List.length_map, List.length_drop]; have := HTm.out; omega) (fun _ => ⟨rfl, rfl⟩) (fun bb hbb => by cases hbb) oneI (by simp only [maxLen]; omega) (by omega) ?_
                  intro a61 c61 wz hr61 hz61
                  exact hK _ _ _ rfl hz61 ⟨a61, c61, rfl, hr61⟩
                · have l12 := hdep 12 (by kernel_rfl)
                  obtain ⟨a61, c61, l12, p12⟩ := l12
                  simp only [List.getD_cons_succ, List.getD_cons_zero, List.setIfInBounds_toArray, List.set_cons_succ, List.set_cons_zero, l12] at hK ⊢
                  refine wpOp_at rfl rfl ?_
                  go_simp
                  exact hK _ _ _ rfl (Chg.refl _ _) ⟨a61, c61, rfl, p12⟩
              case hdone0 =>
                intro us W hC hall
                have l0 := hall 0 (by decide)
                replace l0 : us 0 = .pointer (some ⟨B, 0, none⟩) := l0
                have l1 := hall 1 (by decide)
                replace l1 : us 1 = .pointer (some ⟨B, 0, none⟩) := l1
                have l2 := hall 2 (by decide)
                replace l2 : us 2 = .pointer (some ⟨B, 0, none⟩) := l2
                have l3 := hall 3 (by decide)
                replace l3 : us 3 = .slice (some ⟨G, 0, none⟩) n c := l3
                have l4 := hall 4 (by decide)
                replace l4 : us 4 = .int .i64 i := l4
                have l5 := hall 5 (by decide)
                replace l5 : us 5 = .pointer (some ⟨G, i * 6, none⟩) := l5
                have l6 := hall 6 (by decide)
                replace l6 : us 6 = .pointer (some ⟨G, i * 6, none⟩) := l6
                have l7 := hall 7 (by decide)
                replace l7 : us 7 = .int .i64 x := l7
                have l8 := hall 8 (by decide)
                obtain ⟨b57, l8, p8⟩ := l8
                have l9 := hall 9 (by decide)
                replace l9 : us 9 = .slice none 0 0 := l9
                have l10 := hall 10 (by decide)
                replace l10 : us 10 = .int .i64 0 := l10
                have l11 := hall 11 (by decide)
                replace l11 : us 11 = .slice none 0 0 := l11
                have l12 := hall 12 (by decide)
                obtain ⟨a61, c61, l12, p12⟩ := l12
                have l13 := hall 13 (by decide)
                obtain ⟨a8, c8, l13, p13⟩ := l13
                simp only [actU, Act.put, List.setIfInBounds_toArray, List.set_cons_succ, List.set_cons_zero, Nat.reduceAdd, l0, l1, l2, l3, l4, l5, l6, l7, l8, l9, l10, l11, l12, l13]
                clear hall l0 l1 l2 l3 l4 l5 l6 l7 l8 l9 l10 l11 l12 l13
                obtain ⟨g8, rfl⟩ : ∃ g8, a8 = some ⟨g8, 0, none⟩ := by
                  rcases p13.2 with ⟨h0, h1⟩ | ⟨g8, _, _, h0, _⟩
                  · exact absurd h1 (by omega)
                  · cases h0; exact ⟨g8, rfl⟩
                have hbW : b ≤ W.heap.size := Nat.le_trans HS.out.2.2.2.2.1 hC.size
                have HP := Lib.hid (And.intro p13 (And.intro hC hbW))
                clear p8 p12 p13 hC hbW
                go_wp2_with (at_builtin; refine wpList_append_full rfl _ _ 22 rfl 3 i0 _ 1 8 Try.underlying22 hi0 hz0 hz1 hz2 rfl (by decide) W.heap.size 0 [] rfl (heap_alloc_same _ _) rfl (by decide) b HP.out.2.2 (some ⟨g8, 0, none⟩) (1 + 0) c8 ([.int .i64 x] ++ (T.drop 0).map (Value.int .i64)) rfl HP.out.1.1 (fun h => by cases h) (fun bb hbb => by cases hbb; exact World.ownsRow.cells ((((Chg.refl [] W).alloc (.cells #[] 3)).row HP.out.1 (fun _ _ => by simp))) (g := g8) rfl) (fun u hu => (List.mem_append.1 hu).elim (fun h => by simp only [List.mem_singleton] at h; subst h; rfl) (oneI u)) (by simp only [maxLen]; omega) (by omega) ?_; intro a68 c68 wB hrB hcB; rw [Nat.zero_add, List.nil_append] at hrB; rw [Nat.zero_add]; have HX := Lib.hid (And.intro hrB (((Chg.refl [] W).alloc (.cells #[] 3)).tr hcB)); clear hrB hcB)
                go_roundg (n - (i + 1))
                case measure => omega
                case rel =>
                  have hTm : T.length = 0 := HTm.out
                  have hE : insS T x = T.take 0 ++ x :: T.drop 0 := insS_cut (by omega) HJ.out.1 HJ.out.2
                  have hwz := HQ.out
                  refine ⟨i + 1, 1 + 0, c68, a68, rfl, by omega, rfl, by go_num, Lib.hid ⟨insS T x, ?_, ?_, ?_, ?_, fun h => by omega, ?_⟩⟩
                  · rw [HX2.out, insAll_snoc, ← hwz.1]
                  · rw [hE]; simp only [List.length_append, List.length_cons, List.length_take, List.length_drop]; omega
                  · have := hwz.2.1; omega
                  · rw [hE]; have := HX.out.1; simpa using this
                  · exact ((hwz.2.2.tr HC7.out).tr HP.out.2.1).tr HX.out.2
            · obtain ⟨g, eg, hmc, hmm⟩ : ∃ g, oa = some ⟨g, 0, none⟩ ∧ j ≤ oc ∧ oc ≤ maxLen := by
                rcases HR.out.2 with ⟨h0, h1⟩ | ⟨g, _, _, h0, _, _, h2, h3, _⟩
                · omega
                · cases h0; exact ⟨g, rfl, h2, h3⟩
              subst eg
              have hcm : oc ≤ 9223372036854775807 := by simpa only [maxLen] using hmm
              by_cases hci : oc = j
              · subst hci
                have hTm9 := HTm.out
                have hr7 := HC7.out.row HR.out (fun _ _ => by simp)
                have HS : Hid (w7.cell? ⟨B, 0, none⟩ = some (.slice (some ⟨G, 0, none⟩) n c) ∧ w7.cell? ⟨G, i * 6, none⟩ = some (.int .i64 x) ∧ n ≤ c ∧ (i : Int) < n ∧ b ≤ w7.heap.size ∧ True ∧ (∀ W, Chg [] w7 W → ∀ bb, ((some ⟨g, 0, none⟩) : Option Addr) = some bb → ∀ q u, ((T.take oc).map (Value.int .i64))[q]? = some u → W.cell? (bb.add q) = some u)) := Lib.hid ⟨HC7.out.cell HK.out.1 (by simp), HC7.out.cell HK.out.2 (by simp), hnc9, by omega, by have := HC7.out.size; have := HQ.out.2.2.size; have := HB.out; omega, (trivial), (fun W hW bb hbb => by cases hbb; exact (cellsPart (hW.row hr7 (fun _ _ => by simp)) oc).1)⟩
                clear hr7 hTm9
                go_wp2_with fail
                refine wp_region_st (by kernel_rfl) (by kernel_rfl) [49, 50, 51, 52, 53, 54, 55, 56, 57, 58, 59, 60, 61, 8] (by kernel_rfl) (fun rI rV rW => match rI with | 0 => rV = .pointer (some ⟨B, 0, none⟩) | 1 => rV = .pointer (some ⟨B, 0, none⟩) | 2 => rV = .pointer (some ⟨B, 0, none⟩) | 3 => rV = .slice (some ⟨G, 0, none⟩) n c | 4 => rV = .int .i64 i | 5 => rV = .pointer (some ⟨G, i * 6, none⟩) | 6 => rV = .pointer (some ⟨G, i * 6, none⟩) | 7 => rV = .int .i64 x | 8 => ∃ b57, rV = .slice (some ⟨b57, 0, none⟩) 1 1 ∧ w7.heap.size ≤ b57 ∧ rW.heap[b57]? = some (.cells #[.int .i64 x] 3 (0, 0)) | 9 => rV = .slice (some ⟨g, 0, none⟩) oc oc | 10 => rV = .int .i64 oc | 11 => rV = .slice (some ⟨g, 0, none⟩) 0 0 | 12 => ∃ a61 c61, rV = .slice a61 (1 + 0) c61 ∧ rW.ownsRow b 3 1 (.slice a61 (1 + 0) c61) (1 + 0) ([.int .i64 x] ++ (T.drop oc).map (Value.int .i64)) | 13 => ∃ a8 c8, rV = .slice a8 (1 + 0) c8 ∧ rW.ownsRow b 3 1 (.slice a8 (1 + 0) c8) (1 + 0) ([.int .i64 x] ++ (T.drop oc).map (Value.int .i64)) | _ => True) ?hS0 ?hstep0 ?hdone0
                case hS0 =>
                  intro rI rV rW rW' hc rP
                  match rI, rP with
                  | 0, rP => exact rP
                  | 1, rP => exact rP
                  | 2, rP => exact rP
                  | 3, rP => exact rP
                  | 4, rP => exact rP
                  | 5, rP => exact rP
                  | 6, rP => exact rP
                  | 7, rP => exact rP
                  | 8, rP => exact (by obtain ⟨b57, e9, hp⟩ := rP; exact ⟨b57, e9, ⟨hp.1, hc.heap hp.2 (by simp)⟩⟩)
                  | 9, rP => exact rP
                  | 10, rP => exact rP
                  | 11, rP => exact rP
                  | 12, rP => exact (by obtain ⟨a61, c61, e9, hp⟩ := rP; exact ⟨a61, c61, e9, hc.row hp (fun _ _ => by simp)⟩)
                  | 13, rP => exact (by obtain ⟨a8, c8, e9, hp⟩ := rP; exact ⟨a8, c8, e9, hc.row hp (fun _ _ => by simp)⟩)
                  | _ + 14, _ => trivial
                case hstep0 =>
                  intro rI rH us W hC hdep K hK
                  have hiN : rI < 14 := rH
                  simp only [actU, Act.put, List.setIfInBounds_toArray, List.set_cons_succ, List.set_cons_zero, Nat.reduceAdd] at hK ⊢
                  have kB := hC.cell HS.out.1 (by simp)
                  have kG := hC.cell HS.out.2.1 (by simp)
                  have hnc := HS.out.2.2.1
                  have hin1 := HS.out.2.2.2.1
                  rcases (show rI = 0 ∨ rI = 1 ∨ rI = 2 ∨ rI = 3 ∨ rI = 4 ∨ rI = 5 ∨ rI = 6 ∨ rI = 7 ∨ rI = 8 ∨ rI = 9 ∨ rI = 10 ∨ rI = 11 ∨ rI = 12 ∨ rI = 13 by omega) with rfl | rfl | rfl | rfl | rfl | rfl | rfl | rfl | rfl | rfl | rfl | rfl | rfl | rfl
                  · simp only [List.getD_cons_succ, List.getD_cons_zero, List.setIfInBounds_toArray, List.set_cons_succ, List.set_cons_zero] at hK ⊢
                    refine wpOp_at rfl rfl ?_
                    go_simp
                    exact hK _ _ _ rfl (Chg.refl _ _) rfl
                  · have l0 := hdep 0 (by kernel_rfl)
                    replace l0 : us 0 = .pointer (some ⟨B, 0, none⟩) := l0
                    simp only [List.getD_cons_succ, List.getD_cons_zero, List.setIfInBounds_toArray, List.set_cons_succ, List.set_cons_zero, l0] at hK ⊢
                    refine wpOp_at rfl rfl ?_
                    go_simp
                    exact hK _ _ _ rfl (Chg.refl _ _) rfl
                  · have l1 := hdep 1 (by kernel_rfl)
                    replace l1 : us 1 = .pointer (some ⟨B, 0, none⟩) := l1
                    simp only [List.getD_cons_succ, List.getD_cons_zero, List.setIfInBounds_toArray, List.set_cons_succ, List.set_cons_zero, l1] at hK ⊢
                    refine wpOp_at rfl rfl ?_
                    go_simp
                    exact hK _ _ _ rfl (Chg.refl _ _) rfl
                  · have l2 := hdep 2 (by kernel_rfl)
                    replace l2 : us 2 = .pointer (some ⟨B, 0, none⟩) := l2
                    simp only [List.getD_cons_succ, List.getD_cons_zero, List.setIfInBounds_toArray, List.set_cons_succ, List.set_cons_zero, l2] at hK ⊢
                    refine wpOp_at rfl rfl ?_
                    go_simp
                    exact hK _ _ _ rfl (Chg.refl _ _) rfl
                  · simp only [List.getD_cons_succ, List.getD_cons_zero, List.setIfInBounds_toArray, List.set_cons_succ, List.set_cons_zero] at hK ⊢
                    refine wpOp_at rfl rfl ?_
                    go_simp
                    exact hK _ _ _ rfl (Chg.refl _ _) rfl
                  · have l3 := hdep 3 (by kernel_rfl)
                    replace l3 : us 3 = .slice (some ⟨G, 0, none⟩) n c := l3
                    have l4 := hdep 4 (by kernel_rfl)
                    replace l4 : us 4 = .int .i64 i := l4
                    simp only [List.getD_cons_succ, List.getD_cons_zero, List.setIfInBounds_toArray, List.set_cons_succ, List.set_cons_zero, l3, l4] at hK ⊢
                    refine wpOp_at rfl rfl ?_
                    go_simp
                    exact hK _ _ _ rfl (Chg.refl _ _) rfl
                  · have l5 := hdep 5 (by kernel_rfl)
                    replace l5 : us 5 = .pointer (some ⟨G, i * 6, none⟩) := l5
                    simp only [List.getD_cons_succ, List.getD_cons_zero, List.setIfInBounds_toArray, List.set_cons_succ, List.set_cons_zero, l5] at hK ⊢
                    refine wpOp_at rfl rfl ?_
                    go_simp
                    exact hK _ _ _ rfl (Chg.refl _ _) rfl
                  · have l6 := hdep 6 (by kernel_rfl)
                    replace l6 : us 6 = .pointer (some ⟨G, i * 6, none⟩) := l6
                    simp only [List.getD_cons_succ, List.getD_cons_zero, List.setIfInBounds_toArray, List.set_cons_succ, List.set_cons_zero, l6] at hK ⊢
                    refine wpOp_at rfl rfl ?_
                    go_simp
                    exact hK _ _ _ rfl (Chg.refl _ _) rfl
                  · have l7 := hdep 7 (by kernel_rfl)
                    replace l7 : us 7 = .int .i64 x := l7
                    simp only [List.getD_cons_succ, List.getD_cons_zero, List.setIfInBounds_toArray, List.set_cons_succ, List.set_cons_zero, l7] at hK ⊢
                    refine wpOp_at rfl rfl ?_
                    go_simp
                    exact hK _ _ _ rfl ((Chg.refl _ _).alloc _) ⟨W.heap.size, rfl, ⟨hC.size, heap_alloc_same _ _⟩⟩
                  · simp only [List.getD_cons_succ, List.getD_cons_zero, List.setIfInBounds_toArray, List.set_cons_succ, List.set_cons_zero] at hK ⊢
                    refine wpOp_at rfl rfl ?_
                    go_simp
                    exact hK _ _ _ rfl (Chg.refl _ _) rfl
                  · simp only [List.getD_cons_succ, List.getD_cons_zero, List.setIfInBounds_toArray, List.set_cons_succ, List.set_cons_zero] at hK ⊢
                    refine wpOp_at rfl rfl ?_
                    go_simp
                    exact hK _ _ _ rfl (Chg.refl _ _) rfl
                  · have l9 := hdep 9 (by kernel_rfl)
                    replace l9 : us 9 = .slice (some ⟨g, 0, none⟩) oc oc := l9
                    have l10 := hdep 10 (by kernel_rfl)
                    replace l10 : us 10 = .int .i64 oc := l10
                    simp only [List.getD_cons_succ, List.getD_cons_zero, List.setIfInBounds_toArray, List.set_cons_succ, List.set_cons_zero, l9, l10] at hK ⊢
                    refine wpOp_at rfl rfl ?_
                    go_simp
                    exact hK _ _ _ rfl (Chg.refl _ _) rfl
                  · have l8 := hdep 8 (by kernel_rfl)
                    obtain ⟨b57, l8, p8⟩ := l8
                    have l11 := hdep 11 (by kernel_rfl)
                    replace l11 : us 11 = .slice (some ⟨g, 0, none⟩) 0 0 := l11
                    simp only [List.getD_cons_succ, List.getD_cons_zero, List.setIfInBounds_toArray, List.set_cons_succ, List.set_cons_zero, l8, l11] at hK ⊢
                    refine wpOp_at rfl rfl ?_
                    refine wp_append_full _ _ 22 rfl 3 i0 _ 1 8 Try.underlying22 hi0 hz0 hz1 hz2 rfl (by decide) b57 1 [.int .i64 x] rfl p8.2 rfl (by decide) b (by have := p8.1; have := HS.out.2.2.2.2.1; omega) (some ⟨g, 0, none⟩) 0 0 ((T.drop oc).map (Value.int .i64)) rfl (by rw [List.length_map, List.length_drop]; have := HTm.out; omega) (fun h => by cases h) (fun bb hbb q u hu => by rw [List.drop_eq_nil_of_le (by have := HTm.out; omega)] at hu; simp at hu) oneI (by simp only [maxLen]; omega) (by omega) ?_
                    intro a61 c61 wz hr61 hz61
                    exact hK _ _ _ rfl hz61 ⟨a61, c61, rfl, hr61⟩
                  · have l12 := hdep 12 (by kernel_rfl)
                    obtain ⟨a61, c61, l12, p12⟩ := l12
                    simp only [List.getD_cons_succ, List.getD_cons_zero, List.setIfInBounds_toArray, List.set_cons_succ, List.set_cons_zero, l12] at hK ⊢
                    refine wpOp_at rfl rfl ?_
                    go_simp
                    exact hK _ _ _ rfl (Chg.refl _ _) ⟨a61, c61, rfl, p12⟩
                case hdone0 =>
                  intro us W hC hall
                  have l0 := hall 0 (by decide)
                  replace l0 : us 0 = .pointer (some ⟨B, 0, none⟩) := l0
                  have l1 := hall 1 (by decide)
                  replace l1 : us 1 = .pointer (some ⟨B, 0, none⟩) := l1
                  have l2 := hall 2 (by decide)
                  replace l2 : us 2 = .pointer (some ⟨B, 0, none⟩) := l2
                  have l3 := hall 3 (by decide)
                  replace l3 : us 3 = .slice (some ⟨G, 0, none⟩) n c := l3
                  have l4 := hall 4 (by decide)
                  replace l4 : us 4 = .int .i64 i := l4
                  have l5 := hall 5 (by decide)
                  replace l5 : us 5 = .pointer (some ⟨G, i * 6, none⟩) := l5
                  have l6 := hall 6 (by decide)
                  replace l6 : us 6 = .pointer (some ⟨G, i * 6, none⟩) := l6
                  have l7 := hall 7 (by decide)
                  replace l7 : us 7 = .int .i64 x := l7
                  have l8 := hall 8 (by decide)
                  obtain ⟨b57, l8, p8⟩ := l8
                  have l9 := hall 9 (by decide)
                  replace l9 : us 9 = .slice (some ⟨g, 0, none⟩) oc oc := l9
                  have l10 := hall 10 (by decide)
                  replace l10 : us 10 = .int .i64 oc := l10
                  have l11 := hall 11 (by decide)
                  replace l11 : us 11 = .slice (some ⟨g, 0, none⟩) 0 0 := l11
                  have l12 := hall 12 (by decide)
                  obtain ⟨a61, c61, l12, p12⟩ := l12
                  have l13 := hall 13 (by decide)
                  obtain ⟨a8, c8, l13, p13⟩ := l13
                  simp only [actU, Act.put, List.setIfInBounds_toArray, List.set_cons_succ, List.set_cons_zero, Nat.reduceAdd, l0, l1, l2, l3, l4, l5, l6, l7, l8, l9, l10, l11, l12, l13]
                  clear hall l0 l1 l2 l3 l4 l5 l6 l7 l8 l9 l10 l11 l12 l13
                  obtain ⟨g8, rfl⟩ : ∃ g8, a8 = some ⟨g8, 0, none⟩ := by
                    rcases p13.2 with ⟨h0, h1⟩ | ⟨g8, _, _, h0, _⟩
                    · exact absurd h1 (by omega)
                    · cases h0; exact ⟨g8, rfl⟩
                  have hbW : b ≤ W.heap.size := Nat.le_trans HS.out.2.2.2.2.1 hC.size
                  have HP := Lib.hid (And.intro p13 (And.intro hC hbW))
                  clear p8 p12 p13 hC hbW
                  go_wp2_with (at_builtin; first | (refine wpList_append_full rfl _ _ 22 rfl 3 i0 _ 1 8 Try.underlying22 hi0 hz0 hz1 hz2 rfl (by decide) W.heap.size 0 [] rfl (heap_alloc_same _ _) rfl (by decide) b HP.out.2.2 (some ⟨g, 0, none⟩) oc oc ((T.take oc).map (Value.int .i64)) rfl (by rw [List.length_map, List.length_take]; have := HTm.out; omega) (fun h => by cases h) (HS.out.2.2.2.2.2.2 _ (HP.out.2.1.alloc _)) oneI (by simp only [maxLen]; omega) (by omega) ?_; intro a66 c66 wA hrA hcA; rw [Nat.zero_add, List.nil_append] at hrA; rw [Nat.zero_add]; have HA := Lib.hid (And.intro hrA (And.intro trivial (((Chg.refl [] W).alloc (.cells #[] 3)).tr hcA))); clear hrA hcA) | (refine wpList_append_two rfl _ _ 22 rfl b 3 i0 _ 1 8 Try.underlying22 hi0 hz0 hz1 hz2 rfl (by decide) (.slice a66 oc c66) oc ((T.take oc).map (Value.int .i64)) rfl HA.out.1 (some ⟨g8, 0, none⟩) (1 + 0) c8 ([.int .i64 x] ++ (T.drop oc).map (Value.int .i64)) rfl HP.out.1.1 (fun h => by cases h) (fun bb hbb => by cases hbb; exact World.ownsRow.cells (HA.out.2.2.row HP.out.1 (fun _ _ => by simp)) (g := g8) rfl) (fun u hu => by exact (List.mem_append.1 hu).elim (fun h => by simp only [List.mem_singleton] at h; subst h; rfl) (oneI u)) (by simp only [maxLen]; omega) (by omega) (Nat.le_trans HP.out.2.2 HA.out.2.2.size) ?_; intro v' wB hrB hgB hdB; obtain ⟨a68, c68, rfl⟩ := ownsRow_slice hrB; have HX := Lib.hid (And.intro hrB hgB); clear hrB hgB hdB))
                  go_roundg (n - (i + 1))
                  case measure => omega
                  case rel =>
                    have hTm : T.length = oc := HTm.out
                    have hE : insS T x = T.take oc ++ x :: T.drop oc := insS_cut (by omega) HJ.out.1 HJ.out.2
                    have hwz := HQ.out
                    refine ⟨i + 1, oc + (1 + 0), c68, a68, rfl, by omega, rfl, by go_num, Lib.hid ⟨insS T x, ?_, ?_, ?_, ?_, fun h => by omega, ?_⟩⟩
                    · rw [HX2.out, insAll_snoc, ← hwz.1]
                    · rw [hE]; simp only [List.length_append, List.length_cons, List.length_take, List.length_drop]; omega
                    · have := hwz.2.1; omega
                    · rw [hE]; have := HX.out.1; simpa using this
                    · exact (((hwz.2.2.tr HC7.out).tr HP.out.2.1).tr HA.out.2.2).grown HX.out.2 (fun k hk => .inr (by have := (row_beyond HA.out.1 hk).1; have := HB.out; omega))
              · skip
                have hTm9 := HTm.out
                have hr7 := HC7.out.row HR.out (fun _ _ => by simp)
                have HS : Hid (w7.cell? ⟨B, 0, none⟩ = some (.slice (some ⟨G, 0, none⟩) n c) ∧ w7.cell? ⟨G, i * 6, none⟩ = some (.int .i64 x) ∧ n ≤ c ∧ (i : Int) < n ∧ b ≤ w7.heap.size ∧ True ∧ (∀ W, Chg [] w7 W → ∀ bb, ((some ⟨g, 0, none⟩) : Option Addr) = some bb → ∀ q u, ((T.take j).map (Value.int .i64))[q]? = some u → W.cell? (bb.add q) = some u)) := Lib.hid ⟨HC7.out.cell HK.out.1 (by simp), HC7.out.cell HK.out.2 (by simp), hnc9, by omega, by have := HC7.out.size; have := HQ.out.2.2.size; have := HB.out; omega, (trivial), (fun W hW bb hbb => by cases hbb; exact (cellsPart (hW.row hr7 (fun _ _ => by simp)) j).1)⟩
                clear hr7 hTm9
                go_wp2_with fail
                refine wp_region_st (by kernel_rfl) (by kernel_rfl) [49, 50, 51, 52, 53, 54, 55, 56, 57, 58, 59, 60, 61, 8] (by kernel_rfl) (fun rI rV rW => match rI with | 0 => rV = .pointer (some ⟨B, 0, none⟩) | 1 => rV = .pointer (some ⟨B, 0, none⟩) | 2 => rV = .pointer (some ⟨B, 0, none⟩) | 3 => rV = .slice (some ⟨G, 0, none⟩) n c | 4 => rV = .int .i64 i | 5 => rV = .pointer (some ⟨G, i * 6, none⟩) | 6 => rV = .pointer (some ⟨G, i * 6, none⟩) | 7 => rV = .int .i64 x | 8 => ∃ b57, rV = .slice (some ⟨b57, 0, none⟩) 1 1 ∧ w7.heap.size ≤ b57 ∧ rW.heap[b57]? = some (.cells #[.int .i64 x] 3 (0, 0)) | 9 => rV = .slice (some ⟨g, 0, none⟩) j oc | 10 => rV = .int .i64 j | 11 => rV = .slice (some ⟨g, j, none⟩) 0 (oc - j) | 12 => ∃ a61 c61, rV = .slice a61 (1 + 0) c61 ∧ rW.ownsRow b 3 1 (.slice a61 (1 + 0) c61) (1 + 0) ([.int .i64 x] ++ (T.drop j).map (Value.int .i64)) | 13 => ∃ a8 c8, rV = .slice a8 (1 + 0) c8 ∧ rW.ownsRow b 3 1 (.slice a8 (1 + 0) c8) (1 + 0) ([.int .i64 x] ++ (T.drop j).map (Value.int .i64)) | _ => True) ?hS0 ?hstep0 ?hdone0
                case hS0 =>
                  intro rI rV rW rW' hc rP
                  match rI, rP with
                  | 0, rP => exact rP
                  | 1, rP => exact rP
                  | 2, rP => exact rP
                  | 3, rP => exact rP
                  | 4, rP => exact rP
                  | 5, rP => exact rP
                  | 6, rP => exact rP
                  | 7, rP => exact rP
                  | 8, rP => exact (by obtain ⟨b57, e9, hp⟩ := rP; exact ⟨b57, e9, ⟨hp.1, hc.heap hp.2 (by simp)⟩⟩)
                  | 9, rP => exact rP
                  | 10, rP => exact rP
                  | 11, rP => exact rP
                  | 12, rP => exact (by obtain ⟨a61, c61, e9, hp⟩ := rP; exact ⟨a61, c61, e9, hc.row hp (fun _ _ => by simp)⟩)
                  | 13, rP => exact (by obtain ⟨a8, c8, e9, hp⟩ := rP; exact ⟨a8, c8, e9, hc.row hp (fun _ _ => by simp)⟩)
                  | _ + 14, _ => trivial
                case hstep0 =>
                  intro rI rH us W hC hdep K hK
                  have hiN : rI < 14 := rH
                  simp only [actU, Act.put, List.setIfInBounds_toArray, List.set_cons_succ, List.set_cons_zero, Nat.reduceAdd] at hK ⊢
                  have kB := hC.cell HS.out.1 (by simp)
                  have kG := hC.cell HS.out.2.1 (by simp)
                  have hnc := HS.out.2.2.1
                  have hin1 := HS.out.2.2.2.1
                  rcases (show rI = 0 ∨ rI = 1 ∨ rI = 2 ∨ rI = 3 ∨ rI = 4 ∨ rI = 5 ∨ rI = 6 ∨ rI = 7 ∨ rI = 8 ∨ rI = 9 ∨ rI = 10 ∨ rI = 11 ∨ rI = 12 ∨ rI = 13 by omega) with rfl | rfl | rfl | rfl | rfl | rfl | rfl | rfl | rfl | rfl | rfl | rfl | rfl | rfl
                  · simp only [List.getD_cons_succ, List.getD_cons_zero, List.setIfInBounds_toArray, List.set_cons_succ, List.set_cons_zero] at hK ⊢
                    refine wpOp_at rfl rfl ?_
                    go_simp
                    exact hK _ _ _ rfl (Chg.refl _ _) rfl
                  · have l0 := hdep 0 (by kernel_rfl)
                    replace l0 : us 0 = .pointer (some ⟨B, 0, none⟩) := l0
                    simp only [List.getD_cons_succ, List.getD_cons_zero, List.setIfInBounds_toArray, List.set_cons_succ, List.set_cons_zero, l0] at hK ⊢
                    refine wpOp_at rfl rfl ?_
                    go_simp
                    exact hK _ _ _ rfl (Chg.refl _ _) rfl
                  · have l1 := hdep 1 (by kernel_rfl)
                    replace l1 : us 1 = .pointer (some ⟨B, 0, none⟩) := l1
                    simp only [List.getD_cons_succ, List.getD_cons_zero, List.setIfInBounds_toArray, List.set_cons_succ, List.set_cons_zero, l1] at hK ⊢
                    refine wpOp_at rfl rfl ?_
                    go_simp
                    exact hK _ _ _ rfl (Chg.refl _ _) rfl
                  · have l2 := hdep 2 (by kernel_rfl)
                    replace l2 : us 2 = .pointer (some ⟨B, 0, none⟩) := l2
                    simp only [List.getD_cons_succ, List.getD_cons_zero, List.setIfInBounds_toArray, List.set_cons_succ, List.set_cons_zero, l2] at hK ⊢
                    refine wpOp_at rfl rfl ?_
                    go_simp
                    exact hK _ _ _ rfl (Chg.refl _ _) rfl
                  · simp only [List.getD_cons_succ, List.getD_cons_zero, List.setIfInBounds_toArray, List.set_cons_succ, List.set_cons_zero] at hK ⊢
                    refine wpOp_at rfl rfl ?_
                    go_simp
                    exact hK _ _ _ rfl (Chg.refl _ _) rfl
                  · have l3 := hdep 3 (by kernel_rfl)
                    replace l3 : us 3 = .slice (some ⟨G, 0, none⟩) n c := l3
                    have l4 := hdep 4 (by kernel_rfl)
                    replace l4 : us 4 = .int .i64 i := l4
                    simp only [List.getD_cons_succ, List.getD_cons_zero, List.setIfInBounds_toArray, List.set_cons_succ, List.set_cons_zero, l3, l4] at hK ⊢
                    refine wpOp_at rfl rfl ?_
                    go_simp
                    exact hK _ _ _ rfl (Chg.refl _ _) rfl
                  · have l5 := hdep 5 (by kernel_rfl)
                    replace l5 : us 5 = .pointer (some ⟨G, i * 6, none⟩) := l5
                    simp only [List.getD_cons_succ, List.getD_cons_zero, List.setIfInBounds_toArray, List.set_cons_succ, List.set_cons_zero, l5] at hK ⊢
                    refine wpOp_at rfl rfl ?_
                    go_simp
                    exact hK _ _ _ rfl (Chg.refl _ _) rfl
                  · have l6 := hdep 6 (by kernel_rfl)
                    replace l6 : us 6 = .pointer (some ⟨G, i * 6, none⟩) := l6
                    simp only [List.getD_cons_succ, List.getD_cons_zero, List.setIfInBounds_toArray, List.set_cons_succ, List.set_cons_zero, l6] at hK ⊢
                    refine wpOp_at rfl rfl ?_
                    go_simp
                    exact hK _ _ _ rfl (Chg.refl _ _) rfl
                  · have l7 := hdep 7 (by kernel_rfl)
                    replace l7 : us 7 = .int .i64 x := l7
                    simp only [List.getD_cons_succ, List.getD_cons_zero, List.setIfInBounds_toArray, List.set_cons_succ, List.set_cons_zero, l7] at hK ⊢
                    refine wpOp_at rfl rfl ?_
                    go_simp
                    exact hK _ _ _ rfl ((Chg.refl _ _).alloc _) ⟨W.heap.size, rfl, ⟨hC.size, heap_alloc_same _ _⟩⟩
                  · simp only [List.getD_cons_succ, List.getD_cons_zero, List.setIfInBounds_toArray, List.set_cons_succ, List.set_cons_zero] at hK ⊢
                    refine wpOp_at rfl rfl ?_
                    go_simp
                    exact hK _ _ _ rfl (Chg.refl _ _) rfl
                  · simp only [List.getD_cons_succ, List.getD_cons_zero, List.setIfInBounds_toArray, List.set_cons_succ, List.set_cons_zero] at hK ⊢
                    refine wpOp_at rfl rfl ?_
                    go_simp
                    exact hK _ _ _ rfl (Chg.refl _ _) rfl
                  · have l9 := hdep 9 (by kernel_rfl)
                    replace l9 : us 9 = .slice (some ⟨g, 0, none⟩) j oc := l9
                    have l10 := hdep 10 (by kernel_rfl)
                    replace l10 : us 10 = .int .i64 j := l10
                    simp only [List.getD_cons_succ, List.getD_cons_zero, List.setIfInBounds_toArray, List.set_cons_succ, List.set_cons_zero, l9, l10] at hK ⊢
                    refine wpOp_at rfl rfl ?_
                    go_simp
                    exact hK _ _ _ rfl (Chg.refl _ _) rfl
                  · have l8 := hdep 8 (by kernel_rfl)
                    obtain ⟨b57, l8, p8⟩ := l8
                    have l11 := hdep 11 (by kernel_rfl)
                    replace l11 : us 11 = .slice (some ⟨g, j, none⟩) 0 (oc - j) := l11
                    simp only [List.getD_cons_succ, List.getD_cons_zero, List.setIfInBounds_toArray, List.set_cons_succ, List.set_cons_zero, l8, l11] at hK ⊢
                    refine wpOp_at rfl rfl ?_
                    refine wp_append_full _ _ 22 rfl 3 i0 _ 1 8 Try.underlying22 hi0 hz0 hz1 hz2 rfl (by decide) b57 1 [.int .i64 x] rfl p8.2 rfl (by decide) b (by have := p8.1; have := HS.out.2.2.2.2.1; omega) (some ⟨g, j, none⟩) 0 (oc - j) ((T.drop j).map (Value.int .i64)) rfl (by rw [List.length_map, List.length_drop]; have := HTm.out; omega) (fun h => by cases h) (fun bb hbb q u hu => by rw [List.drop_eq_nil_of_le (by have := HTm.out; omega)] at hu; simp at hu) oneI (by simp only [maxLen]; omega) (by omega) ?_
                    intro a61 c61 wz hr61 hz61
                    exact hK _ _ _ rfl hz61 ⟨a61, c61, rfl, hr61⟩
                  · have l12 := hdep 12 (by kernel_rfl)
                    obtain ⟨a61, c61, l12, p12⟩ := l12
                    simp only [List.getD_cons_succ, List.getD_cons_zero, List.setIfInBounds_toArray, List.set_cons_succ, List.set_cons_zero, l12] at hK ⊢
                    refine wpOp_at rfl rfl ?_
                    go_simp
                    exact hK _ _ _ rfl (Chg.refl _ _) ⟨a61, c61, rfl, p12⟩
                case hdone0 =>
                  intro us W hC hall
                  have l0 := hall 0 (by decide)
                  replace l0 : us 0 = .pointer (some ⟨B, 0, none⟩) := l0
                  have l1 := hall 1 (by decide)
                  replace l1 : us 1 = .pointer (some ⟨B, 0, none⟩) := l1
                  have l2 := hall 2 (by decide)
                  replace l2 : us 2 = .pointer (some ⟨B, 0, none⟩) := l2
                  have l3 := hall 3 (by decide)
                  replace l3 : us 3 = .slice (some ⟨G, 0, none⟩) n c := l3
                  have l4 := hall 4 (by decide)
                  replace l4 : us 4 = .int .i64 i := l4
                  have l5 := hall 5 (by decide)
                  replace l5 : us 5 = .pointer (some ⟨G, i * 6, none⟩) := l5
                  have l6 := hall 6 (by decide)
                  replace l6 : us 6 = .pointer (some ⟨G, i * 6, none⟩) := l6
                  have l7 := hall 7 (by decide)
                  replace l7 : us 7 = .int .i64 x := l7
                  have l8 := hall 8 (by decide)
                  obtain ⟨b57, l8, p8⟩ := l8
                  have l9 := hall 9 (by decide)
                  replace l9 : us 9 = .slice (some ⟨g, 0, none⟩) j oc := l9
                  have l10 := hall 10 (by decide)
                  replace l10 : us 10 = .int .i64 j := l10
                  have l11 := hall 11 (by decide)
                  replace l11 : us 11 = .slice (some ⟨g, j, none⟩) 0 (oc - j) := l11
                  have l12 := hall 12 (by decide)
                  obtain ⟨a61, c61, l12, p12⟩ := l12
                  have l13 := hall 13 (by decide)
                  obtain ⟨a8, c8, l13, p13⟩ := l13
                  simp only [actU, Act.put, List.setIfInBounds_toArray, List.set_cons_succ, List.set_cons_zero, Nat.reduceAdd, l0, l1, l2, l3, l4, l5, l6, l7, l8, l9, l10, l11, l12, l13]
                  clear hall l0 l1 l2 l3 l4 l5 l6 l7 l8 l9 l10 l11 l12 l13
                  obtain ⟨g8, rfl⟩ : ∃ g8, a8 = some ⟨g8, 0, none⟩ := by
                    rcases p13.2 with ⟨h0, h1⟩ | ⟨g8, _, _, h0, _⟩
                    · exact absurd h1 (by omega)
                    · cases h0; exact ⟨g8, rfl⟩
                  have hbW : b ≤ W.heap.size := Nat.le_trans HS.out.2.2.2.2.1 hC.size
                  have HP := Lib.hid (And.intro p13 (And.intro hC hbW))
                  clear p8 p12 p13 hC hbW
                  go_wp2_with (at_builtin; first | (refine wpList_append_full rfl _ _ 22 rfl 3 i0 _ 1 8 Try.underlying22 hi0 hz0 hz1 hz2 rfl (by decide) W.heap.size 0 [] rfl (heap_alloc_same _ _) rfl (by decide) b HP.out.2.2 (some ⟨g, 0, none⟩) j oc ((T.take j).map (Value.int .i64)) rfl (by rw [List.length_map, List.length_take]; have := HTm.out; omega) (fun h => by cases h) (HS.out.2.2.2.2.2.2 _ (HP.out.2.1.alloc _)) oneI (by simp only [maxLen]; omega) (by omega) ?_; intro a66 c66 wA hrA hcA; rw [Nat.zero_add, List.nil_append] at hrA; rw [Nat.zero_add]; have HA := Lib.hid (And.intro hrA (And.intro trivial (((Chg.refl [] W).alloc (.cells #[] 3)).tr hcA))); clear hrA hcA) | (refine wpList_append_two rfl _ _ 22 rfl b 3 i0 _ 1 8 Try.underlying22 hi0 hz0 hz1 hz2 rfl (by decide) (.slice a66 j c66) j ((T.take j).map (Value.int .i64)) rfl HA.out.1 (some ⟨g8, 0, none⟩) (1 + 0) c8 ([.int .i64 x] ++ (T.drop j).map (Value.int .i64)) rfl HP.out.1.1 (fun h => by cases h) (fun bb hbb => by cases hbb; exact World.ownsRow.cells (HA.out.2.2.row HP.out.1 (fun _ _ => by simp)) (g := g8) rfl) (fun u hu => by exact (List.mem_append.1 hu).elim (fun h => by simp only [List.mem_singleton] at h; subst h; rfl) (oneI u)) (by simp only [maxLen]; omega) (by omega) (Nat.le_trans HP.out.2.2 HA.out.2.2.size) ?_; intro v' wB hrB hgB hdB; obtain ⟨a68, c68, rfl⟩ := ownsRow_slice hrB; have HX := Lib.hid (And.intro hrB hgB); clear hrB hgB hdB))
                  go_roundg (n - (i + 1))
                  case measure => omega
                  case rel =>
                    have hTm : T.length = j := HTm.out
                    have hE : insS T x = T.take j ++ x :: T.drop j := insS_cut (by omega) HJ.out.1 HJ.out.2
                    have hwz := HQ.out
                    refine ⟨i + 1, j + (1 + 0), c68, a68, rfl, by omega, rfl, by go_num, Lib.hid ⟨insS T x, ?_, ?_, ?_, ?_, fun h => by omega, ?_⟩⟩
                    · rw [HX2.out, insAll_snoc, ← hwz.1]
                    · rw [hE]; simp only [List.length_append, List.length_cons, List.length_take, List.length_drop]; omega
                    · have := hwz.2.1; omega
                    · rw [hE]; have := HX.out.1; simpa using this
                    · exact (((hwz.2.2.tr HC7.out).tr HP.out.2.1).tr HA.out.2.2).grown HX.out.2 (fun k hk => .inr (by have := (row_beyond HA.out.1 hk).1; have := HB.out; omega))
      · rw [if_neg hp, List.append_nil] at hsn
        have HX2 := Lib.hid hsn
        have HZ := Lib.hid (And.intro hm hmz)
        clear hsn hT hm hcq hq hrow hiL hy hI
        go_wp2_with fail
        go_roundg (n - (i + 1))
        case measure => omega
        case rel => exact ⟨i + 1, m, oc, oa, rfl, by omega, rfl, by go_num, Lib.hid ⟨T, by rw [HX2.out, ← HQ.out.1], HZ.out.1, by omega, HR.out, HZ.out.2, HQ.out.2.2⟩⟩
    · obtain rfl : i = n := by omega
      have HF := Lib.hid (And.intro hT (And.intro hm (And.intro hrow hcq)))
      clear hT hm hrow hcq hq hI
      go_wp2_with fail
      go_ret
      have hT2 : T = insAll (rulesAt (rss l) place) := by rw [HF.out.1, List.take_of_length_le (by rw [rss_len, ← HH.out.2]; exact Nat.le_refl _)]
      refine ⟨oa, oc, by rw [← hT2, ← HF.out.2.1]; rfl, ?_, fun k hk => ?_, HF.out.2.2.2⟩
      · rw [← hT2, ← HF.out.2.1]; exact row_base HF.out.2.2.1 (Nat.zero_le _)
      · rw [← hT2, ← HF.out.2.1] at hk; have := (row_beyond HF.out.2.2.1 hk).1; have := HB.out; omega
end Go.Proofs.Ytffjfkjlahdedaa

/-
  The document's answer of layer 12: how far numbers of a graph are away, and the next one on a shortest way.
  Conditions: the graph's rows rise, its numbers are there.
-/
import Derived.Test.YtibgfgfmljhimaaGreatLeSf3
import Derived.Test.YtibgfgfmljhimaaGreatLeLt0
set_option linter.unusedVariables false
set_option linter.unusedSimpArgs false
set_option linter.unnecessarySimpa false
namespace Go.Proofs.YtibgfgfmljhimaaGreat
open Go.RowKit Go.MapKept Go.Shelf

/-- A graph in memory. -/
structure GrRow (w : World) (xa : Option Addr) (n xc : Nat) (G : List (List Int)) : Prop where
  ok : GraphOk n G
  rise : ∀ zs ∈ G, zs.Pairwise (· < ·)
  row : ∀ i (h : i < G.length), ∃ b ra rl rc, xa = some ⟨b, 0, none⟩ ∧ w.cell? ⟨b, i, none⟩ = some (.slice ra rl rc) ∧ rl = G[i].length ∧ Ints w ra G[i]
theorem GrRow.keep {w w' : World} {xa : Option Addr} {n xc : Nat} {G : List (List Int)} (h : GrRow w xa n xc G) (k : Kp w w') : GrRow w' xa n xc G :=
  ⟨h.ok, h.rise, fun i hi => by
    obtain ⟨b, ra, rl, rc, h1, h2, h3, h4⟩ := h.row i hi
    exact ⟨b, ra, rl, rc, h1, k.2 _ _ h2, h3, h4.keep k⟩⟩
theorem OwnIs.graph {B : Nat} {w : World} {xa : Option Addr} {n xc : Nat} {VS : List Is} {G : List (List Int)} (h : OwnIs B w xa xc VS) (hv : VS.map (·.2.2) = G) (ok : GraphOk n G) (hr : ∀ zs ∈ G, zs.Pairwise (· < ·)) : GrRow w xa n xc G := by
  refine ⟨ok, hr, fun i hi => ?_⟩
  have hl : VS.length = G.length := by rw [← hv, List.length_map]
  obtain ⟨b, h1, _, h2⟩ := h.at (i := i) (by omega)
  have e : (VS[i]'(by omega)).2.2 = G[i] := by
    have := List.getElem_map (fun v : Is => v.2.2) (l := VS) (i := i) (h := by rw [List.length_map]; omega)
    rw [← this]
    simp only [hv]
  have h3 := h.ints (i := i) (by omega)
  rw [e] at h3
  exact ⟨b, _, _, _, h1, h2, by rw [e], h3⟩
def rowF (n : Nat) (f : Nat → Int) : List Int := (List.range n).map f
theorem rowF_len (n : Nat) (f : Nat → Int) : (rowF n f).length = n := by simp [rowF]
theorem rowF_at {n : Nat} (f : Nat → Int) {i : Nat} (h : i < n) : (rowF n f)[i]? = some (f i) := by simp [rowF, h]
theorem rowF_set {n : Nat} (f : Nat → Int) {i : Nat} (v : Int) : (rowF n f).set i v = rowF n (fun j => if j = i then v else f j) := by
  apply List.ext_getElem
  · simp [rowF]
  · intro j h1 h2
    rw [List.getElem_set]
    simp only [rowF, List.getElem_map, List.getElem_range]
    by_cases e : i = j
    · subst e; simp
    · rw [if_neg e, if_neg (fun h => e h.symm)]
theorem rowF_congr {n : Nat} {f g : Nat → Int} (h : ∀ j, j < n → f j = g j) : rowF n f = rowF n g := by
  unfold rowF
  exact List.map_congr_left fun j hj => h j (List.mem_range.1 hj)
def dstL (G : List (List Int)) (k n : Nat) : List Int := rowF n (dstI G k)
/-- A row of numbers in a block, and all else as it was. -/
def RowAt (w0 w : World) (B n : Nat) (f : Nat → Int) : Prop := w.ownsRow w0.heap.size 3 1 (.slice (some ⟨B, 0, none⟩) n n) n ((rowF n f).map (Value.int .i64)) ∧ Chg [] w0 w
theorem RowAt.cell {w0 w : World} {B n : Nat} {f : Nat → Int} (h : RowAt w0 w B n f) {i : Nat} (hi : i < n) : w.cell? ⟨B, i, none⟩ = some (.int .i64 (f i)) ∧ w.frozen? ⟨B, i, none⟩ = false ∧ B < w.heap.size := by
  obtain ⟨h1, h2, h3, ⟨cur, h4⟩, _⟩ := row_put h.1 (i := i) (by omega)
  rw [List.getElem?_map, rowF_at f hi, Option.map_some] at h1
  exact ⟨h1, h2, lt_of_block h4⟩
theorem RowAt.put {w0 w : World} {B n : Nat} {f : Nat → Int} (h : RowAt w0 w B n f) {i : Nat} (hi : i < n) (v : Int) : RowAt w0 (w.setCell ⟨B, i, none⟩ (.int .i64 v)) B n (fun j => if j = i then v else f j) := by
  obtain ⟨h1, h2, h3, _, h5⟩ := row_put h.1 (i := i) (by omega)
  refine ⟨?_, h.2.setCell (p := ⟨B, i, none⟩) (.inr h3) _⟩
  have := (h5 (.int .i64 v)).1
  rw [← List.map_set, rowF_set] at this
  exact this
theorem RowAt.congr {w0 w : World} {B n : Nat} {f g : Nat → Int} (h : RowAt w0 w B n f) (e : ∀ j, j < n → f j = g j) : RowAt w0 w B n g := by
  unfold RowAt at h ⊢
  rw [← rowF_congr e]
  exact h
theorem RowAt.told {w0 w : World} {B n : Nat} {f : Nat → Int} (h : RowAt w0 w B n f) : ToldInts w0 (rowF n f) (.returned (.slice (some ⟨B, 0, none⟩) n n)) w := by
  refine ⟨_, n, n, rfl, (rowF_len n f).symm, ?_, h.2⟩
  unfold FreshInts
  rw [rowF_len]
  exact h.1
/-- While a number's row is looked at. -/
def farIn (G : List (List Int)) (k : Nat) (d : Int) (i : Nat) (V : Int) (j : Nat) : Int := if j < i then farAt G k (d + 1) j else if j = i then V else farAt G k d j
def FarV (G : List (List Int)) (k : Nat) (d : Int) (i q : Nat) (V : Int) : Prop :=
  (0 ≤ V ∧ V = farAt G k (d + 1) i) ∨ (V < 0 ∧ V = farAt G k d i ∧ ∀ m, m < q → ∀ z, (G.getD i [])[m]? = some z → dstI G k z.toNat ≠ d - 1)
theorem farV_start {n : Nat} {G : List (List Int)} (hG : GraphOk n G) (hr : ∀ zs ∈ G, zs.Pairwise (· < ·)) {k i : Nat} {d : Int} (hd : 1 ≤ d) : FarV G k d i 0 (farAt G k d i) := by
  by_cases h : 0 ≤ farAt G k d i
  · exact .inl ⟨h, (far_same hG hr hd h).symm⟩
  · exact .inr ⟨by omega, rfl, fun m hm => by omega⟩
theorem farV_end {n : Nat} {G : List (List Int)} (hG : GraphOk n G) (hr : ∀ zs ∈ G, zs.Pairwise (· < ·)) {k i q : Nat} {d V : Int} (hd : 1 ≤ d) (h : FarV G k d i q V) (hq : 0 ≤ V ∨ (G.getD i []).length ≤ q) : V = farAt G k (d + 1) i := by
  rcases h with ⟨_, h⟩ | ⟨h0, h1, h2⟩
  · exact h
  · have hl : (G.getD i []).length ≤ q := by omega
    rw [h1, far_none hG hr hd (by omega)]
    intro z hz
    obtain ⟨m, hm, e⟩ := List.mem_iff_getElem.1 hz
    exact h2 m (by omega) z (by rw [List.getElem?_eq_getElem hm, e])
theorem farV_next {G : List (List Int)} {k i q : Nat} {d V z : Int} (h : FarV G k d i q V) (hV : V < 0) (hz : (G.getD i [])[q]? = some z) (hn : dstI G k z.toNat ≠ d - 1) : FarV G k d i (q + 1) V := by
  rcases h with ⟨h0, _⟩ | ⟨h0, h1, h2⟩
  · omega
  · refine .inr ⟨h0, h1, fun m hm y hy => ?_⟩
    by_cases e : m = q
    · subst e
      rw [hz] at hy
      cases hy
      exact hn
    · exact h2 m (by omega) y hy
theorem farV_found {n : Nat} {G : List (List Int)} (hG : GraphOk n G) (hr : ∀ zs ∈ G, zs.Pairwise (· < ·)) {k i q : Nat} {d V z : Int} (hd : 1 ≤ d) (h : FarV G k d i q V) (hV : V < 0) (hz : (G.getD i [])[q]? = some z) (hn : dstI G k z.toNat = d - 1) : FarV G k d i (q + 1) d := by
  rcases h with ⟨h0, _⟩ | ⟨h0, h1, h2⟩
  · omega
  · exact .inl ⟨by omega, (far_found hG hr hd (by omega) (List.mem_of_getElem? hz) hn).symm⟩
theorem farIn_eq {G : List (List Int)} {k i q j : Nat} {d V : Int} (hd : 1 ≤ d) (h : FarV G k d i q V) (hV : V < 0) : farIn G k d i V j = d - 1 ↔ dstI G k j = d - 1 := by
  unfold farIn
  split
  · exact far_eq hd (.inr rfl)
  · split
    · rename_i e
      subst e
      rcases h with ⟨h0, _⟩ | ⟨h0, h1, _⟩
      · omega
      · unfold farAt at h1
        have := dstI_ge G k j
        split at h1 <;> omega
    · exact far_eq hd (.inl rfl)

set_option maxRecDepth 100000 in
set_option maxHeartbeats 16000000 in
theorem ref12far_any (w : World) (xa : Option Addr) (n xc : Nat) (G : List (List Int)) (hX : GrRow w xa n xc G) (k : Nat) (hk : k < n) :
    Calls Tryz.prog 105 #[.slice xa n xc, .int .i64 k] w (ToldInts w (dstL G k n)) := by
  have hn32 : n ≤ 32 := hX.ok.few
  have hmk := run_zeros n (by omega)
  have H := Lib.hid hX
  have hki : (k : Int) < n := by omega
  clear hX
  go_enter Tryz.func105, Tryz.ntmps105
  go_wp2_with fail
  obtain ⟨B, hB⟩ : ∃ B, B = w.heap.size := ⟨_, rfl⟩
  have h0 : RowAt w (w.alloc (rowOf n (List.replicate n 0))) B n (fun j => if j < 0 then -1 else 0) := by
    refine ⟨⟨by simp [rowF_len], .inr ⟨B, n, _, rfl, by omega, by rw [hB]; exact heap_alloc_same _ _, Nat.le_refl _, by simp only [maxLen]; omega, by simp, ?_⟩⟩, (Chg.refl _ _).alloc _⟩
    have e : rowF n (fun j => if j < 0 then -1 else 0) = List.replicate n 0 := by
      apply List.ext_getElem
      · simp [rowF]
      · intro j h1 h2
        simp [rowF]
    rw [e]
    simp
  obtain ⟨w0, e0⟩ : ∃ w0, w0 = w.alloc (rowOf n (List.replicate n 0)) := ⟨_, rfl⟩
  rw [← e0] at h0 ⊢
  rw [← hB]
  have H0 := Lib.hid h0
  clear e0 h0 hB hmk
  go_loopg [6] n (fun dd iv wr => ∃ i : Nat, dd = n - i ∧ i ≤ n ∧ iv = .int .i64 i ∧ Hid (RowAt w wr B n (fun j => if j < i then -1 else 0)))
  case atStart => exact ⟨0, rfl, Nat.zero_le _, rfl, H0⟩
  case round =>
    obtain ⟨i, rfl, hi, rfl, hin⟩ := hrel
    obtain ⟨wq, rfl⟩ : ∃ wz, wz = wr := ⟨_, rfl⟩
    by_cases hil : i < n
    · obtain ⟨c0, f0, hBl⟩ := hin.out.cell hil
      have hii : (i : Int) < n := by omega
      have HP := Lib.hid ((hin.out.put hil (-1)).congr (g := fun j => if j < i + 1 then -1 else 0) (fun j hj => by by_cases e : j = i; subst e; simp; by_cases e2 : j < i; rw [if_neg e, if_pos e2, if_pos (by omega)]; rw [if_neg e, if_neg e2, if_neg (by omega)]))
      go_wp2_with fail
      go_roundg (n - (i + 1))
      case measure => omega
      case rel => exact ⟨i + 1, rfl, by omega, by go_num, HP⟩
    · obtain rfl : n = i := by omega
      obtain ⟨c0, f0, hBl⟩ := hin.out.cell hk
      have HP := Lib.hid ((hin.out.put hk 0).congr (g := farAt G k 1) (fun j hj => by rw [farAt_zero]; by_cases e : j = k; rw [if_pos e, if_pos e]; rw [if_neg e, if_neg e, if_pos hj]))
      go_wp2_with fail
      clear c0 f0 hBl hin
      obtain ⟨w1, e1⟩ : ∃ w1, w1 = wq.setCell ⟨B, k, none⟩ (.int .i64 0) := ⟨_, rfl⟩
      rw [← e1] at HP ⊢
      clear e1
      go_loopg [7] (n - 1) (fun dd dv wr => ∃ d : Nat, dd = n - d ∧ 1 ≤ d ∧ d ≤ n ∧ dv = .int .i64 d ∧ Hid (RowAt w wr B n (farAt G k d)))
      case atStart => exact ⟨1, rfl, Nat.le_refl _, by omega, rfl, HP⟩
      case round =>
        obtain ⟨d, rfl, hd1, hd, rfl, hind⟩ := hrel
        obtain ⟨wd, rfl⟩ : ∃ wz, wz = wr := ⟨_, rfl⟩
        by_cases hdl : d < n
        · go_wp2_with fail
          try rw [show decide ((d : Int) < n) = true from decide_eq_true (by omega)]
          go_loopg [8] n (fun dd iv wr => ∃ i : Nat, dd = n - i ∧ i ≤ n ∧ iv = .int .i64 i ∧ Hid (RowAt w wr B n (fun j => if j < i then farAt G k ((d : Int) + 1) j else farAt G k d j)))
          case atStart => exact ⟨0, rfl, Nat.zero_le _, rfl, Lib.hid (hind.out.congr fun j hj => by rw [if_neg (Nat.not_lt_zero _)])⟩
          case round =>
            obtain ⟨i, rfl, hi, rfl, hini⟩ := hrel
            obtain ⟨wi, rfl⟩ : ∃ wz, wz = wr := ⟨_, rfl⟩
            by_cases hil : i < n
            · have hiG : i < G.length := by have := H.out.ok.len; omega
              obtain ⟨ln, hln⟩ : ∃ ln, ln = G[i].length := ⟨_, rfl⟩
              have hgd : G.getD i [] = G[i] := by rw [List.getD, List.getElem?_eq_getElem hiG]; rfl
              have HL := Lib.hid (And.intro hln hgd)
              have hl32 : ln ≤ 32 := by rw [hln]; exact H.out.ok.rows _ (List.getElem_mem hiG)
              clear hln hgd
              go_wp2_with fail
              try rw [show decide ((i : Int) < n) = true from decide_eq_true (by omega)]
              go_loopg [9] ln (fun dd qv wr => ∃ (q : Nat) (V : Int), dd = ln - q ∧ q ≤ ln ∧ qv = .int .i64 q ∧ Hid (RowAt w wr B n (farIn G k d i V) ∧ FarV G k d i q V))
              case atStart => exact ⟨0, farAt G k d i, rfl, Nat.zero_le _, rfl, Lib.hid ⟨hini.out.congr fun j hj => by unfold farIn; by_cases e : j < i; rw [if_pos e, if_pos e]; rw [if_neg e, if_neg e]; by_cases e2 : j = i; rw [if_pos e2, e2]; rw [if_neg e2], farV_start H.out.ok H.out.rise (by omega)⟩⟩
              case round =>
                obtain ⟨q, V, rfl, hq, rfl, hinq⟩ := hrel
                obtain ⟨wk, rfl⟩ : ∃ wz, wz = wr := ⟨_, rfl⟩
                obtain ⟨bx, ra, rl, rc, rfl, hxc, hrl, hri⟩ := (H.out.keep hinq.out.1.2.kp).row i hiG
                have hrl2 : rl = ln := by rw [hrl, HL.out.1]
                subst hrl2
                have HI := Lib.hid hri
                obtain ⟨c0, f0, hBl⟩ := hinq.out.1.cell hil
                have hfi : farIn G k d i V i = V := by unfold farIn; rw [if_neg (Nat.lt_irrefl _), if_pos rfl]
                rw [hfi] at c0
                have hii : (i : Int) < n := by omega
                clear hri hrl hfi
                by_cases hqV : q < rl ∧ V < 0
                · obtain ⟨hql, hV⟩ := hqV
                  have hqG : q < G[i].length := by have := HL.out.1; omega
                  obtain ⟨bk, ok, rfl, hkc⟩ := HI.out q hqG
                  obtain ⟨z, hz⟩ : ∃ z, z = G[i][q] := ⟨_, rfl⟩
                  have hzn := H.out.ok.ins _ (List.getElem_mem hiG) z (by rw [hz]; exact List.getElem_mem hqG)
                  obtain ⟨m, rfl⟩ : ∃ m : Nat, z = (m : Int) := ⟨z.toNat, by omega⟩
                  rw [← hz] at hkc
                  have hzq : (G.getD i [])[q]? = some (m : Int) := by rw [HL.out.2, List.getElem?_eq_getElem hqG, ← hz]
                  have hmn : m < n := by omega
                  have hmi : (m : Int) < n := by omega
                  obtain ⟨c1, _, _⟩ := hinq.out.1.cell hmn
                  have hfe := farIn_eq (G := G) (k := k) (i := i) (q := q) (j := m) (d := d) (V := V) (by omega) hinq.out.2 hV
                  obtain ⟨fm, hfm⟩ : ∃ fm, fm = farIn G k d i V m := ⟨_, rfl⟩
                  rw [← hfm] at c1 hfe
                  have hbk := World.block_lt_of_cell? _ _ hkc
                  have hbx := World.block_lt_of_cell? _ _ hxc
                  simp only at hbk hbx
                  have hVd : decide (V < 0) = true := decide_eq_true hV
                  have hqi : (q : Int) < rl := by omega
                  have HE := Lib.hid (And.intro hfe hzq)
                  clear hfe hfm hz hzn hzq
                  by_cases hfd : fm = (d : Int) - 1
                  · have hfb : (fm == (d : Int) - 1) = true := by simpa using hfd
                    have hdst := HE.out.1.1 hfd
                    have HZ := Lib.hid (And.intro (farV_found H.out.ok H.out.rise (by omega) hinq.out.2 hV HE.out.2 (by rw [Int.toNat_natCast]; exact hdst)) ((hinq.out.1.put hil d).congr (g := farIn G k d i d) (fun j hj => by unfold farIn; by_cases e : j = i; rw [if_pos e, if_neg (by omega), if_pos e]; rw [if_neg e]; by_cases e2 : j < i; rw [if_pos e2, if_pos e2]; rw [if_neg e2, if_neg e2, if_neg e, if_neg e])))
                    clear hfd hdst
                    go_wp2_with fail
                    go_roundg (rl - (q + 1))
                    case measure => omega
                    case rel => exact ⟨q + 1, d, rfl, by omega, by go_num, Lib.hid ⟨HZ.out.2, HZ.out.1⟩⟩
                  · have hfb : (fm == (d : Int) - 1) = false := by simpa using hfd
                    have HZ := Lib.hid (farV_next hinq.out.2 hV HE.out.2 (fun h => hfd (HE.out.1.2 (by rw [Int.toNat_natCast] at h; exact h))))
                    clear hfd
                    go_wp2_with fail
                    go_roundg (rl - (q + 1))
                    case measure => omega
                    case rel => exact ⟨q + 1, V, rfl, by omega, by go_num, Lib.hid ⟨hinq.out.1, HZ.out⟩⟩
                · have hVe : V = farAt G k ((d : Int) + 1) i := farV_end H.out.ok H.out.rise (by omega) hinq.out.2 (by rw [HL.out.2, ← HL.out.1]; omega)
                  have HZ := Lib.hid (hinq.out.1.congr (g := fun j => if j < i + 1 then farAt G k ((d : Int) + 1) j else farAt G k d j) (fun j hj => by
                    unfold farIn
                    by_cases e : j < i
                    · rw [if_pos e, if_pos (by omega)]
                    · rw [if_neg e]
                      by_cases e2 : j = i
                      · rw [if_pos e2, if_pos (by omega), hVe, e2]
                      · rw [if_neg e2, if_neg (by omega)]))
                  have hbx := World.block_lt_of_cell? _ _ hxc
                  simp only at hbx
                  clear hVe
                  by_cases hql : q < rl
                  · have hVd : decide (V < 0) = false := decide_eq_false (fun h => hqV ⟨hql, h⟩)
                    go_wp2_with fail
                    go_roundg (n - (i + 1))
                    case measure => omega
                    case rel => exact ⟨i + 1, rfl, by omega, by go_num, HZ⟩
                  · go_wp2_with fail
                    go_roundg (n - (i + 1))
                    case measure => omega
                    case rel => exact ⟨i + 1, rfl, by omega, by go_num, HZ⟩
            · obtain rfl : n = i := by omega
              have HZ : Hid (RowAt w wi B n (farAt G k ((d + 1 : Nat) : Int))) := Lib.hid (hini.out.congr (fun j hj => by rw [if_pos hj]; rfl))
              go_wp2_with fail
              go_roundg (n - (d + 1))
              case measure => omega
              case rel => exact ⟨d + 1, rfl, by omega, by omega, by go_num, HZ⟩
        · obtain rfl : n = d := by omega
          have HZ := Lib.hid ((hind.out.congr (g := dstI G k) (fun j hj => far_end H.out.ok H.out.rise hk hj (Int.le_refl _))).told)
          go_wp2_with fail
          go_ret
          exact HZ.out

set_option maxRecDepth 100000 in
set_option maxHeartbeats 16000000 in
theorem ref12next_any (w : World) (xa : Option Addr) (n xc : Nat) (G : List (List Int)) (hX : GrRow w xa n xc G) (k i : Nat) (hk : k < n) (hi : i < n) (da : Option Addr) (dl dc : Nat) (hdl : dl = n) (hD : Ints w da (dstL G k n)) :
    Calls Tryz.prog 104 #[.slice xa n xc, .int .i64 i, .slice da dl dc] w fun e w' => e = .returned (.int .i64 (nxtI G i k)) ∧ Chg [] w w' := by
  obtain ⟨A, hA⟩ : ∃ A, A = nxtI G i k := ⟨_, rfl⟩
  rw [← hA]
  have hn32 : n ≤ 32 := hX.ok.few
  have hiG : i < G.length := by have := hX.ok.len; omega
  obtain ⟨bx, ra, ln, rc, rfl, hxc, hln, hri⟩ := hX.row i hiG
  have hgd : G.getD i [] = G[i] := by rw [List.getD, List.getElem?_eq_getElem hiG]; rfl
  have hl32 : ln ≤ 32 := by rw [hln]; exact hX.ok.rows _ (List.getElem_mem hiG)
  have hDc : ∀ m, m < n → ∃ bd od, da = some ⟨bd, od, none⟩ ∧ w.cell? ⟨bd, od + m, none⟩ = some (.int .i64 (dstI G k m)) := fun m hm => by
    obtain ⟨bd, od, e1, e2⟩ := hD m (by unfold dstL; rw [rowF_len]; exact hm)
    refine ⟨bd, od, e1, ?_⟩
    rw [e2]
    have := rowF_at (n := n) (dstI G k) hm
    unfold dstL
    rw [List.getElem?_eq_getElem (by rw [rowF_len]; exact hm)] at this
    rw [Option.some.inj this]
  have H := Lib.hid (And.intro hX (And.intro hri (And.intro hDc (And.intro hA (And.intro hln hgd)))))
  have hbx := World.block_lt_of_cell? _ _ hxc
  simp only at hbx
  have hii : (i : Int) < n := by omega
  subst hdl
  clear hX hri hDc hA hln hgd hD
  go_enter Tryz.func104, Tryz.ntmps104
  go_wp2_with fail
  go_loopg [8, 7] ln (fun dd qv bv wr => ∃ (q : Nat) (b : Int), dd = ln - q ∧ q ≤ ln ∧ qv = .int .i64 q ∧ bv = .int .i64 b ∧ -1 ≤ b ∧ b < dl ∧ Hid (NB G k (G[i].take q) b ∧ Chg [] w wr))
  case atStart => exact ⟨0, -1, rfl, Nat.zero_le _, rfl, rfl, by decide, by omega, Lib.hid ⟨NB.nil G k, Chg.refl _ _⟩⟩
  case round =>
    obtain ⟨q, b, rfl, hq, rfl, rfl, hb1, hb2, hin⟩ := hrel
    obtain ⟨wq, rfl⟩ : ∃ wz, wz = wr := ⟨_, rfl⟩
    have hxq := hin.out.2.cell hxc (by simp)
    have hbxq : bx < wq.heap.size := Nat.lt_of_lt_of_le hbx hin.out.2.size
    by_cases hql : q < ln
    · have hqG : q < G[i].length := by have := H.out.2.2.2.2.1; omega
      obtain ⟨bk, ok, rfl, hkc⟩ := (H.out.2.1.keep hin.out.2.kp) q hqG
      obtain ⟨z, hz⟩ : ∃ z, z = G[i][q] := ⟨_, rfl⟩
      have hzn := H.out.1.ok.ins _ (List.getElem_mem hiG) z (by rw [hz]; exact List.getElem_mem hqG)
      obtain ⟨m, rfl⟩ : ∃ m : Nat, z = (m : Int) := ⟨z.toNat, by omega⟩
      rw [← hz] at hkc
      have hmn : m < dl := by omega
      have hmi : (m : Int) < dl := by omega
      obtain ⟨bd, od, rfl, hdc⟩ := H.out.2.2.1 m hmn
      have hdc := hin.out.2.cell hdc (by simp)
      obtain ⟨dm, hdm⟩ : ∃ dm, dm = dstI G k m := ⟨_, rfl⟩
      rw [← hdm] at hdc
      have hnb := hin.out.1.snoc (z := (m : Int)) (by omega) (fun y hy => by
        have hp := H.out.1.rise _ (List.getElem_mem hiG)
        rw [hz]
        obtain ⟨j, hj, e⟩ := List.mem_iff_getElem.1 hy
        have hj2 : j < q := by simp at hj; omega
        rw [← e, List.getElem_take]
        exact List.pairwise_iff_getElem.1 hp j q (by omega) hqG hj2)
      have htk : G[i].take (q + 1) = G[i].take q ++ [(m : Int)] := by rw [List.take_succ_eq_append_getElem hqG, ← hz]
      rw [← htk, Int.toNat_natCast, ← hdm] at hnb
      have HN := Lib.hid hnb
      have hbk := World.block_lt_of_cell? _ _ hkc
      have hbd := World.block_lt_of_cell? _ _ hdc
      simp only at hbk hbd
      have hqi : (q : Int) < ln := by omega
      have kd := cell_rg hdc
      clear hz hzn hdm htk hnb
      by_cases hd0 : 0 ≤ dm
      · have e1 : decide (0 ≤ dm) = true := decide_eq_true hd0
        by_cases hb0 : b < 0
        · have e2 : decide (b < 0) = true := decide_eq_true hb0
          have HM := Lib.hid (show NB G k (G[i].take (q + 1)) m by have h9 := HN.out; rw [if_pos ⟨hd0, .inl hb0⟩] at h9; exact h9)
          clear hd0 hb0
          go_wp2_with fail
          refine wp_region_quiet_below (by kernel_rfl) (by kernel_rfl) ?_
          repeat (go_big_quiet_step (fail))
          refine wpQuiet_nil ?_
          intro w7 hw7
          have hc7 := Lib.hid (hin.out.2.tr (chg_of_rg hw7))
          clear hw7 kd hdc hkc hxq hbxq hbk hbd
          go_wp2_with fail
          go_roundg (ln - (q + 1))
          case measure => omega
          case rel => exact ⟨q + 1, m, rfl, by omega, by go_num, rfl, by omega, by omega, Lib.hid ⟨HM.out, hc7.out⟩⟩
        · obtain ⟨bn, rfl⟩ : ∃ bn : Nat, b = (bn : Int) := ⟨b.toNat, by omega⟩
          obtain ⟨bd', od', ee, hdb⟩ := H.out.2.2.1 bn (by omega)
          cases ee
          have hdb := hin.out.2.cell hdb (by simp)
          obtain ⟨db, hdbE⟩ : ∃ db, db = dstI G k bn := ⟨_, rfl⟩
          rw [← hdbE] at hdb
          have e2 : decide ((bn : Int) < 0) = false := decide_eq_false hb0
          have hbni : (bn : Int) < dl := by omega
          have kb := cell_rg hdb
          have HB := Lib.hid hdbE
          clear hdbE
          by_cases hlt : dm < db
          · have e3 : decide (dm < db) = true := decide_eq_true hlt
            have HM := Lib.hid (show NB G k (G[i].take (q + 1)) m by have h9 := HN.out; rw [if_pos ⟨hd0, .inr (by rw [Int.toNat_natCast, ← HB.out]; exact hlt)⟩] at h9; exact h9)
            clear hd0 hb0 hlt
            go_wp2_with fail
            refine wp_region_quiet_below (by kernel_rfl) (by kernel_rfl) ?_
            repeat (go_big_quiet_step (fail))
            refine wpQuiet_nil ?_
            intro w7 hw7
            have hc7 := Lib.hid (hin.out.2.tr (chg_of_rg hw7))
            clear hw7 kd kb hdb hdc hkc hxq hbxq hbk hbd
            go_wp2_with fail
            go_roundg (ln - (q + 1))
            case measure => omega
            case rel => exact ⟨q + 1, m, rfl, by omega, by go_num, rfl, by omega, by omega, Lib.hid ⟨HM.out, hc7.out⟩⟩
          · have e3 : decide (dm < db) = false := decide_eq_false hlt
            have HM := Lib.hid (show NB G k (G[i].take (q + 1)) bn by have h9 := HN.out; rw [if_neg (by rw [Int.toNat_natCast, ← HB.out]; omega)] at h9; exact h9)
            clear hd0 hb0 hlt
            go_wp2_with fail
            refine wp_region_quiet_below (by kernel_rfl) (by kernel_rfl) ?_
            repeat (go_big_quiet_step (fail))
            refine wpQuiet_nil ?_
            intro w7 hw7
            have hc7 := Lib.hid (hin.out.2.tr (chg_of_rg hw7))
            clear hw7 kd kb hdb hdc hkc hxq hbxq hbk hbd
            go_wp2_with fail
            go_roundg (ln - (q + 1))
            case measure => omega
            case rel => exact ⟨q + 1, bn, rfl, by omega, by go_num, rfl, by omega, by omega, Lib.hid ⟨HM.out, hc7.out⟩⟩
      · have e1 : decide (0 ≤ dm) = false := decide_eq_false hd0
        have HM := Lib.hid (show NB G k (G[i].take (q + 1)) b by have h9 := HN.out; rw [if_neg (fun h => hd0 h.1)] at h9; exact h9)
        clear hd0
        go_wp2_with fail
        refine wp_region_quiet_below (by kernel_rfl) (by kernel_rfl) ?_
        repeat (go_big_quiet_step (fail))
        refine wpQuiet_nil ?_
        intro w7 hw7
        have hc7 := Lib.hid (hin.out.2.tr (chg_of_rg hw7))
        clear hw7 kd hdc hkc hxq hbxq hbk hbd
        go_wp2_with fail
        go_roundg (ln - (q + 1))
        case measure => omega
        case rel => exact ⟨q + 1, b, rfl, by omega, by go_num, rfl, by omega, by omega, Lib.hid ⟨HM.out, hc7.out⟩⟩
    · obtain rfl : ln = q := by omega
      have hAb : b = A := by
        have h9 := hin.out.1
        rw [List.take_of_length_le (by rw [H.out.2.2.2.2.1]; exact Nat.le_refl _), ← H.out.2.2.2.2.2] at h9
        rw [H.out.2.2.2.1]
        exact h9.next H.out.1.ok H.out.1.rise
      have HA := Lib.hid hAb
      clear hAb
      go_wp2_with fail
      go_ret
      exact ⟨by rw [HA.out]; rfl, hin.out.2⟩
end Go.Proofs.YtibgfgfmljhimaaGreat

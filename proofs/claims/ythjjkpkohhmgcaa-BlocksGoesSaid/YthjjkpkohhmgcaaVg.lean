/- Blocks: all looked through. -/
import Derived.Test.YthjjkpkohhmgcaaVe
namespace Go.Proofs.Ythjjkpkohhmgcaa
open Go.RowKit Go.Proofs.YthjjkpkohhmgcaaW.PrintWords

set_option maxRecDepth 100000 in
theorem mk_ints (N : Nat) (hN : N ≤ 8192) (W : World) : (Instr.makeSlice 27 (.int .i64 (N : Int)) (.int .i64 (N : Int))).run Try.prog W = .ok (.slice (some ⟨W.heap.size, 0, none⟩) N N) (W.alloc (.cells (List.replicate N (.int .i64 0)).toArray 3)) := by
  obtain ⟨i0, hi, hzz⟩ := Option.map_eq_some_iff.1 infoInt
  simp only [Prod.mk.injEq] at hzz
  obtain ⟨hz0, hz1, hz2⟩ := hzz
  have hr := run_make (P := Try.prog) W 27 3 i0 (.int .i64 0) (by exact Try.underlying27) hi hz0 .i64 .i64 (N : Int) (N : Int) (by omega) (by omega) (by rw [hz2]; omega) (by omega)
  simp only [Int.toNat_natCast] at hr
  rw [hz1, Nat.mul_one] at hr
  rw [hr]
  have : madeCells (Value.int .i64 0).cells N = (List.replicate N (.int .i64 0)).toArray := by
    apply Array.toList_inj.1
    rw [show (Value.int .i64 0).cells = #[.int .i64 0] from rfl, toList_madeCells_one]
  rw [this]
/-- What is looked through. -/
def lookS (L : List Bk) : Look.Lk := Look.at' (gB L) L.length 0 ⟨fun _ => 0, [], []⟩
/-- What looking through answers. -/
def LookPost (L : List Bk) (w : World) (e : Ending) (w' : World) : Prop :=
  ∃ A1 c1 A2 c2 bk, e = .returned (.agg #[.slice A1 (lookS L).done.length c1, .slice A2 bk.length c2]) ∧ kI.C w' A1 (lookS L).done.length (ints (lookS L).done.reverse) ∧ kW.C w' A2 bk.length bk ∧ (∀ q : Int × Int, q ∈ bk ↔ q ∈ ways (lookS L).back) ∧ bk.Pairwise LexW ∧ (lookS L).done.length ≤ c1 ∧ Below w.heap.size w w' ∧ ∃ g, A1 = some ⟨g, 0, none⟩ ∧ w.heap.size ≤ g
set_option maxHeartbeats 2000000 in
theorem insertion_none (p : Option Addr) (cap : Nat) (fv : Value) (w : World) :
    Calls Try.prog 61 #[.slice p 0 cap, .int .i64 0, .int .i64 0, fv] w fun e w' => e = .returned (.tuple #[]) ∧ w' = w := by
  go_enter Try.func61, Try.ntmps61
  go_wp2
  refine wp_loop_rounds 1 ?_
  rw [rounds_succ]
  go_wp2
  go_end0
  exact ⟨rfl, rfl⟩
set_option maxHeartbeats 2000000 in
theorem pdq_none (p : Option Addr) (cap : Nat) (lim : Int) (fv : Value) (w : World) :
    Calls Try.prog 53 #[.slice p 0 cap, .int .i64 0, .int .i64 0, .int .i64 lim, fv] w fun e w' => e = .returned (.tuple #[]) ∧ w' = w := by
  go_enter Try.func53, Try.ntmps53
  go_wp2
  refine wp_loop_rounds 1 ?_
  rw [rounds_succ]
  go_wp2_with (go_at_call 61; refine (insertion_none _ _ _ _).mono ?_; rintro e w' ⟨rfl, rfl⟩)
  (try simp only [Exit.inBlock, Exit.then]); refine bodyPost_ret (results_none rfl _ _ _) rfl ?_
  exact ⟨rfl, rfl⟩
set_option maxHeartbeats 2000000 in
theorem sort_none (p : Option Addr) (cap : Nat) (fv : Value) (w : World) :
    Calls Try.prog 39 #[.slice p 0 cap, fv] w fun e w' => e = .returned (.tuple #[]) ∧ w' = w := by
  have hl : ∀ W, Calls Try.prog 54 #[.int .u64 0] W fun e w' => e = .returned (.int .i64 (Lib.bitLen (0 : Int).toNat)) ∧ w' = W := fun W => Try.bits_Len 0 W (by omega) (by omega)
  go_enter Try.func39, Try.ntmps39
  go_wp2_with (first | (go_at_call 54; refine (hl _).mono ?_; rintro e w' ⟨rfl, rfl⟩) | (go_at_call 53; refine (pdq_none _ _ _ _ _).mono ?_; rintro e w' ⟨rfl, rfl⟩))
  go_end0
  exact ⟨rfl, rfl⟩
set_option maxHeartbeats 2000000 in
theorem compact_none (p : Option Addr) (cap : Nat) (w : World) :
    Calls Try.prog 42 #[.slice p 0 cap] w fun e w' => e = .returned (.slice p 0 cap) ∧ w' = w := by
  go_enter Try.func42, Try.ntmps42
  go_wp2
  go_ret
  exact ⟨rfl, rfl⟩
theorem cell_same {w w' : World} {g : Nat} (h : w'.heap[g]? = w.heap[g]?) (i : Nat) : w'.cell? ⟨g, i, none⟩ = w.cell? ⟨g, i, none⟩ := by
  simp only [World.cell?, h]
def CI (g : Nat) (l : List Int) (w : World) : Prop := ∀ j, j < l.length → w.cell? ⟨g, j, none⟩ = some (.int .i64 (l.getD j 0))
theorem CI.c {g : Nat} {l : List Int} {w : World} (h : CI g l w) (hn : l.length ≤ 9223372036854775807) : kI.C w (some ⟨g, 0, none⟩) l.length l := by
  refine ⟨rfl, hn, fun _ => ⟨_, rfl, fun j p hp => ⟨[.int .i64 p], rfl, rfl, fun i u hu => ?_⟩⟩⟩
  obtain ⟨hj, e⟩ := List.getElem?_eq_some_iff.1 hp
  cases i with
  | zero =>
    have : Value.int .i64 p = u := by simpa using hu
    subst this
    have := h j hj
    rw [List.getD_eq_getElem?_getD, hp] at this
    rw [add_off, show 0 + (j * kI.sz + 0) = j by show 0 + (j * 1 + 0) = j; omega]
    exact this
  | succ i => simp at hu
def CW (g : Nat) (l : List (Int × Int)) (w : World) : Prop := ∀ i (hi : i < l.length), w.cell? ⟨g, i * 2, none⟩ = some (.int .i64 (l[i]).1) ∧ w.cell? ⟨g, i * 2 + 1, none⟩ = some (.int .i64 (l[i]).2)
theorem CW.c {g : Nat} {l : List (Int × Int)} {w : World} (h : CW g l w) (hn : l.length ≤ 9223372036854775807) : kW.C w (some ⟨g, 0, none⟩) l.length l := by
  refine ⟨rfl, hn, fun _ => ⟨_, rfl, fun j p hp => ⟨[.int .i64 p.1, .int .i64 p.2], rfl, ⟨[_], [_], rfl, rfl, rfl⟩, fun i u hu => ?_⟩⟩⟩
  obtain ⟨hj, e⟩ := List.getElem?_eq_some_iff.1 hp
  obtain ⟨h1, h2⟩ := h j hj
  rw [e] at h1 h2
  rw [add_off]
  match i, hu with
  | 0, hu =>
    have : Value.int .i64 p.1 = u := by simpa using hu
    subst this
    rw [show 0 + (j * kW.sz + 0) = j * 2 by show 0 + (j * 2 + 0) = j * 2; omega]
    exact h1
  | 1, hu =>
    have : Value.int .i64 p.2 = u := by simpa using hu
    subst this
    rw [show 0 + (j * kW.sz + 1) = j * 2 + 1 by show 0 + (j * 2 + 1) = j * 2 + 1; omega]
    exact h2
  | i + 2, hu => simp at hu
theorem reverse_any (g cap : Nat) (l : List Int) (w : World) (h : CI g l w) (hb : ∃ cs, w.heap[g]? = some (.cells cs 3 (0, 0))) (hn : l.length ≤ 9223372036854775807) :
    Calls Try.prog 38 #[.slice (some ⟨g, 0, none⟩) l.length cap] w fun e w' => e = .returned (.tuple #[]) ∧ Below g w w' ∧ w.heap.size ≤ w'.heap.size ∧ (∀ i, i < w.heap.size → i ≠ g → w'.heap[i]? = w.heap[i]?) ∧ CI g l.reverse w' := by
  obtain ⟨cs, hc⟩ := hb
  have hH : Sort.Holds (Value.int .i64) w g 0 l.toArray := by
    intro j hj
    have hj' : j < l.length := by simpa using hj
    refine ⟨?_, blk_frozen hc _⟩
    rw [Nat.zero_add, h j hj', List.getD_eq_getElem?_getD, List.getElem?_eq_getElem hj']
    simp [hj']
  refine (Try.slices_Reverse_int g 0 cap l w hH hn).mono ?_
  rintro e w' ⟨rfl, n, rfl⟩
  have hg := putG (Value.int .i64) w g n l.reverse.toArray #[] (blk_lt hc)
  rw [Sort.grow_empty] at hg
  obtain ⟨h1, h2, h3, h4⟩ := hg
  refine ⟨rfl, h1, h2, h3, fun j hj => ?_⟩
  have := (Sort.holds_putRow (Value.int .i64) (Sort.ahead w n) g 0 l.toArray l.reverse.toArray (Sort.holds_ahead _ w n g 0 _ hH) (by simp) j (by simpa using hj)).1
  rw [Nat.zero_add] at this
  rw [this]
  rw [List.length_reverse] at hj
  simp [hj, List.getD]
theorem new2 (w : World) (a b : Obj) : ((w.alloc a).alloc b).heap[w.heap.size]? = some a ∧ ((w.alloc a).alloc b).heap[w.heap.size + 1]? = some b ∧ ((w.alloc a).alloc b).heap.size = w.heap.size + 2 := by
  refine ⟨blk_alloc (blk_new w a) b, ?_, by rw [World.size_alloc, World.size_alloc]⟩
  have := blk_new (w.alloc a) b
  rwa [World.size_alloc] at this
theorem look_made (w2 : World) (B lb lo c n : Nat) (hB : w2.heap.size = B + 2) (hl : w2.heap[B]? = some (.cells #[.slice (some ⟨lb, lo, none⟩) n c] 22 (0, 0))) (fn : Value) (hf : fn = fnV (B + 1 + 1 + 1 + 1) B (B + 1 + 1) (B + 1 + 1 + 1 + 1 + 1)) :
    VW w2 (some ⟨lb, lo, none⟩) c n (B + 1 + 1 + 1 + 1) B (B + 1 + 1) (B + 1 + 1 + 1 + 1 + 1) (B + 1 + 1 + 1) ⟨fun _ => 0, [], []⟩ ((((w2.alloc (.cells #[.slice none 0 0, .slice none 0 0] 54)).alloc (.cells (Array.replicate n (.int .i64 0)) 3)).alloc (.cells #[.slice (some ⟨B + 1 + 1 + 1, 0, none⟩) n n] 27)).alloc (.cells #[fn] 60)) := by
  subst hf
  have k1 := blk_new w2 (.cells #[.slice none 0 0, .slice none 0 0] 54)
  have k2 := blk_new (w2.alloc (.cells #[.slice none 0 0, .slice none 0 0] 54)) (.cells (Array.replicate n (.int .i64 0)) 3)
  have k3 := blk_new ((w2.alloc (.cells #[.slice none 0 0, .slice none 0 0] 54)).alloc (.cells (Array.replicate n (.int .i64 0)) 3)) (.cells #[.slice (some ⟨B + 1 + 1 + 1, 0, none⟩) n n] 27)
  have k4 := blk_new (((w2.alloc (.cells #[.slice none 0 0, .slice none 0 0] 54)).alloc (.cells (Array.replicate n (.int .i64 0)) 3)).alloc (.cells #[.slice (some ⟨B + 1 + 1 + 1, 0, none⟩) n n] 27)) (.cells #[fnV (B + 1 + 1 + 1 + 1) B (B + 1 + 1) (B + 1 + 1 + 1 + 1 + 1)] 60)
  simp only [World.size_alloc, hB] at k1 k2 k3 k4
  refine ⟨below_alloc (below_alloc (below_alloc (below_alloc (Below.refl _ _) _) _) _) _, blk_alloc k3 _, blk_alloc (blk_alloc (blk_alloc (blk_alloc hl _) _) _) _, k4, ?_, ⟨none, 0, none, 0, blk_alloc (blk_alloc (blk_alloc k1 _) _) _, Kd.R_nil _ _ _ _ _, Kd.R_nil _ _ _ _ _⟩, by omega, by omega⟩
  have e : ((stRow n (fun _ => 0)).map (Value.int .i64)).toArray = Array.replicate n (.int .i64 0) := by
    rw [stRow_zero]; simp
  rw [e]
  exact blk_alloc (blk_alloc k2 _) _
theorem CI.move {g : Nat} {l : List Int} {w w' : World} (h : CI g l w) (hw : w'.heap[g]? = w.heap[g]?) : CI g l w' := fun j hj => (cell_same hw j).trans (h j hj)
theorem CW.move {g : Nat} {l : List (Int × Int)} {w w' : World} (h : CW g l w) (hw : w'.heap[g]? = w.heap[g]?) : CW g l w' := fun i hi => ⟨(cell_same hw _).trans (h i hi).1, (cell_same hw _).trans (h i hi).2⟩
/-- The ways back, as they lie. -/
def BKs (p q : Nat) (A : Option Addr) (bk : List (Int × Int)) (w : World) : Prop := bk.length ≤ 1000000000 ∧ (0 < bk.length → ∃ g, A = some ⟨g, 0, none⟩ ∧ g ≠ p ∧ g ≠ q ∧ CW g bk w)
theorem BKs.move {p q : Nat} {A : Option Addr} {bk : List (Int × Int)} {w w' : World} (h : BKs p q A bk w) (hw : ∀ g, g ≠ p → g ≠ q → w'.heap[g]? = w.heap[g]?) : BKs p q A bk w' := by
  refine ⟨h.1, fun hp => ?_⟩
  obtain ⟨g, h1, h2, h3, h4⟩ := h.2 hp
  exact ⟨g, h1, h2, h3, h4.move (hw g h2 h3)⟩
theorem BKs.c {p q : Nat} {A : Option Addr} {bk : List (Int × Int)} {w : World} (h : BKs p q A bk w) : kW.C w A bk.length bk := by
  by_cases hp : 0 < bk.length
  · obtain ⟨g, rfl, _, _, h4⟩ := h.2 hp
    exact h4.c (by have := h.1; omega)
  · exact ⟨rfl, by omega, fun h => absurd h hp⟩
/-- The end. -/
theorem look_end {w w2 w4 : World} {B g1 n : Nat} {A2 : Option Addr} {bk : List (Int × Int)} {l : List Int} (hB : w.heap.size = B) (h2 : Below B w w2) (h3 : w2.heap.size = B + 2) (h4 : Below (B + 2) w2 w4) (hl : l.length = n) (hn : n ≤ 8192) (hg : g1 ≠ B + 1 + 1) (hg2 : B + 2 ≤ g1) (hc : CI g1 l w4) (hk : BKs (B + 1 + 1) (B + 1) A2 bk w4)
    (u v x : Value) : kI.C (((w4.setCell ⟨B + 1 + 1, 1, none⟩ u).setCell ⟨B + 1, 0, none⟩ v).setCell ⟨B + 1, 1, none⟩ x) (some ⟨g1, 0, none⟩) n l ∧ kW.C (((w4.setCell ⟨B + 1 + 1, 1, none⟩ u).setCell ⟨B + 1, 0, none⟩ v).setCell ⟨B + 1, 1, none⟩ x) A2 bk.length bk ∧ Below w.heap.size w (((w4.setCell ⟨B + 1 + 1, 1, none⟩ u).setCell ⟨B + 1, 0, none⟩ v).setCell ⟨B + 1, 1, none⟩ x) := by
  have key : ∀ g, g ≠ B + 1 + 1 → g ≠ B + 1 → (((w4.setCell ⟨B + 1 + 1, 1, none⟩ u).setCell ⟨B + 1, 0, none⟩ v).setCell ⟨B + 1, 1, none⟩ x).heap[g]? = w4.heap[g]? := by
    intro g e1 e2
    rw [Below.heap_setCell _ ⟨B + 1, _, none⟩ _ g e2, Below.heap_setCell _ ⟨B + 1, _, none⟩ _ g e2, Below.heap_setCell _ ⟨B + 1 + 1, _, none⟩ _ g e1]
  refine ⟨?_, (hk.move key).c, ?_⟩
  · have := (hc.move (key g1 hg (by omega))).c (by omega)
    rwa [hl] at this
  · rw [hB]
    have h5 : Below B w w4 := h2.trans (h4.mono (by omega))
    exact ((h5.setCell (by show B ≤ B + 1 + 1; omega) _).setCell (by show B ≤ B + 1; omega) _).setCell (by show B ≤ B + 1; omega) _
set_option maxRecDepth 100000 in
set_option maxHeartbeats 8000000 in
theorem lookThrough_any (lb lo c : Nat) (L : List Bk) (w : World) (hL : kB.C w (some ⟨lb, lo, none⟩) L.length L) (hM : May 20000 L) :
    Calls Try.prog 25 #[.slice (some ⟨lb, lo, none⟩) L.length c] w (LookPost L w) := by
  have hnb := hM.few
  have hmk := mk_ints L.length hnb
  have HM := hid hM
  have HL := hid hL
  clear hM hL
  go_enter Try.func25, Try.ntmps25
  go_upto_region 5 with fail
  have N2 := new2 w (.cells #[.slice (some ⟨lb, lo, none⟩) L.length c] 22) (.cells #[.slice none 0 0, .slice none 0 0] 54)
  have HL2 := hid (Kd.C_alloc (Kd.C_alloc HL.out (.cells #[.slice (some ⟨lb, lo, none⟩) L.length c] 22)) (.cells #[.slice none 0 0, .slice none 0 0] 54))
  have HB2 := hid (below_alloc (below_alloc (Below.refl w.heap.size w) (.cells #[.slice (some ⟨lb, lo, none⟩) L.length c] 22)) (.cells #[.slice none 0 0, .slice none 0 0] 54))
  generalize (w.alloc (.cells #[.slice (some ⟨lb, lo, none⟩) L.length c] 22)).alloc (.cells #[.slice none 0 0, .slice none 0 0] 54) = w2 at *
  obtain ⟨n1, n2, n3⟩ := N2
  generalize hBe : w.heap.size = B at *
  have HBe := hid hBe
  clear hBe
  have HV0 := hid (look_made w2 B lb lo c L.length n3 n1 (fnV (B + 1 + 1 + 1 + 1) B (B + 1 + 1) (B + 1 + 1 + 1 + 1 + 1)) rfl)
  have HN2 := hid n2
  have HN3 := hid n3
  have HF := hid (show Look.fresh L.length ⟨fun _ => 0, [], []⟩ ≤ L.length by unfold Look.fresh; exact Nat.le_trans (List.length_filter_le _ _) (by simp))
  have HC := hid (fun W hW => look_all w2 L lb lo c L.length (B + 1 + 1 + 1 + 1) B (B + 1 + 1) (B + 1 + 1 + 1 + 1 + 1) (B + 1 + 1 + 1) HL2.out HM.out L.length 0 ⟨fun _ => 0, [], []⟩ W HM.out.pos rfl HF.out Look.Fine.start hW)
  have HT := hid (Look.look_law (g := gB L) (n := L.length) HM.out.lt HM.out.pos (Nat.le_refl _))
  have HZ := hid (Look.Fine.start.at (K := 20000) (g := gB L) HM.out.lt HM.out.len HM.out.pos rfl HF.out)
  have d3 := blk_cell HV0.out.ka 0
  clear n1 n2 n3
  go_upto_region 6 with (go_at_call 37; refine (HC.out _ HV0.out).mono ?_; rintro e w1 ⟨rfl, hV⟩; have HV := hid hV; clear hV)
  have hS : Look.at' (gB L) L.length 0 ⟨fun _ => 0, [], []⟩ = lookS L := rfl
  rw [hS] at HV HT HZ
  generalize hSS : lookS L = S at *
  have HSS := hid hSS
  clear hS HC HV0 d3 HF hmk hSS
  obtain ⟨A1, c1, A2, c2, k1, r1, r2⟩ := HV.out.out
  have hdl : 0 < S.done.length := by
    obtain ⟨D, e, _⟩ := HT.out.root
    rw [e]; simp
  have hdn : S.done.length ≤ 8192 := by have := HZ.out.sum; omega
  have hbn : S.back.length ≤ 1000000000 := by have := HZ.out.pot; omega
  obtain ⟨g1, cap1, e1, hg1, _, cs1, hcs1⟩ := Kd.R_form r1 (by rw [ints_len]; exact hdl)
  rw [ints_len] at e1
  injection e1 with e1 hx2 e2
  subst e1 e2
  obtain ⟨hx1, hcc1, hC1⟩ := Kd.R_reads' r1
  clear hx1 hx2
  rw [ints_len] at hC1
  have HCI := hid (show CI g1 (ints S.done) w1 from fun j hj => by
    have := C_scalar (h1 := fun _ => rfl) hC1 0 j hj
    rwa [Nat.zero_add] at this)
  have HK1 := hid k1
  have HR2 := hid r2
  have HCS1 := hid hcs1
  have HNP : Hid (B + 1 + 1 ≠ g1) := blk_ne k1 hcs1 (by decide)
  have HRV := hid (reverse_any g1 c1 (ints S.done) w1 HCI.out ⟨_, hcs1⟩ (by rw [ints_len]; omega))
  rw [ints_len] at HRV
  have d1 := blk_cell k1 0
  clear k1 r1 r2 hcs1 hC1
  go_upto_region 7 with (go_at_call 38; refine HRV.out.mono ?_; rintro e w3 ⟨rfl, a1, a2, a3, a4⟩; have HA1 := hid a1; have HA2 := hid a2; have HA3 := hid a3; have HA4 := hid a4; clear a1 a2 a3 a4)
  clear d1
  have HK3 := hid ((HA3.out _ (blk_lt HK1.out) HNP.out).trans HK1.out)
  have HR3 := hid (Kd.R_step (Kd.R_types HR2.out HCS1.out (by decide)) (w1 := w3) (fun k hk hlt => HA3.out k hlt hk.2))
  have HB3 := hid (show Below (B + 2) w2 w3 by
    have := HV.out.below.trans (HA1.out.mono hg1)
    rwa [HN3.out] at this)
  have HG1 := hid (show B + 2 ≤ g1 by rw [← HN3.out]; exact hg1)
  have HR4 := hid (show B + 1 < w2.heap.size by rw [HN3.out]; omega)
  have d1 := blk_cell HK3.out 1
  clear HRV HV HA1 HA3 HCI HCS1 HR2 HK1
  generalize hbl : S.back.length = M at *
  have HBL := hid hbl
  clear hbl
  by_cases hM0 : M = 0
  · subst hM0
    have hb0 : S.back = [] := List.eq_nil_of_length_eq_zero HBL.out
    have HB0 := hid hb0
    clear hb0
    go_upto_region 8 with (go_at_call 39; refine (sort_none _ _ _ _).mono ?_; rintro e w4 ⟨rfl, rfl⟩)
    have KR := (HB3.out.block (B + 1) (by omega)).trans HN2.out
    have x0 := blk_cell HK3.out 0
    have x2 := blk_frozen HK3.out 1
    have y0 := blk_cell KR 0
    have y1 := blk_cell KR 1
    have z0 := blk_frozen KR 0
    have z1 := blk_frozen KR 1
    have HKR := hid KR
    clear KR
    go_wp2_with (go_at_call 42; refine (compact_none _ _ _).mono ?_; rintro e w5 ⟨rfl, rfl⟩)
    refine bodyPost_ret (results_single rfl (.cell (B + 1) 54 #[.slice (some ⟨g1, 0, none⟩) S.done.length c1, .slice A2 0 c2] (0, 0) _ rfl (blk_put (blk_put (blk_far HKR.out (by show B + 1 ≠ B + 1 + 1; omega) _) 0 _ rfl) 1 _ rfl) Try.underlying54 rfl (by kernel_rfl) .nil)) rfl ?_
    have HE := fun u v x => look_end (bk := []) (A2 := A2) (l := (ints S.done).reverse) (n := S.done.length) HBe.out HB2.out HN3.out HB3.out (by rw [List.length_reverse, ints_len]) hdn (Ne.symm HNP.out) HG1.out HA4.out ⟨by simp, fun h => absurd h (by simp)⟩ u v x
    obtain ⟨p1, p2, p3⟩ := HE _ _ _
    unfold LookPost
    rw [HSS.out]
    exact ⟨_, _, _, _, [], rfl, by rw [show ints S.done.reverse = (ints S.done).reverse by simp [ints]]; exact p1, p2, fun q => by rw [HB0.out]; simp [ways], List.Pairwise.nil, hcc1, p3, g1, rfl, by rw [HBe.out]; have := HG1.out; omega⟩
  · have HP := hid (Nat.pos_of_ne_zero hM0)
    clear hM0
    obtain ⟨g2, cap2, e3, hg3, _, cs2, hcs2⟩ := Kd.R_form HR3.out (by rw [ways_len, HBL.out]; exact HP.out)
    rw [ways_len, HBL.out] at e3
    injection e3 with e3 hx3 e4
    subst e3 e4
    clear hx3
    obtain ⟨hx1, hcc2, hC2⟩ := Kd.R_reads' HR3.out
    clear hx1
    have HDS := hid (show (ways S.back).toArray.size = M by simp [ways, HBL.out])
    have HH2 := hid (show H2 g2 (ways S.back).toArray w3 by
      refine ⟨fun i hi => ?_, fun i hi => ?_, ⟨cs2, hcs2⟩⟩
      all_goals
        have hi' : i < (ways S.back).length := by simpa using hi
        obtain ⟨ad, cc, e, _, hK, hc0⟩ := Kd.C_get hC2 (0, 0) (i : Int) (by omega) (by rw [Int.ofNat_lt]; exact hi')
        cases e
        rw [Int.toNat_natCast] at hK hc0
        have hg : (ways S.back).getD i (0, 0) = (ways S.back).toArray[i]! := by simp [List.getD, hi']
        rw [hg] at hK
        have hcc := kW_open hK
        subst hcc
      · have := hc0 0 _ rfl
        rw [add_off, show 0 + (i * kW.sz + 0) = i * 2 by show 0 + (i * 2 + 0) = i * 2; omega] at this
        exact this
      · have := hc0 1 _ rfl
        rw [add_off, show 0 + (i * kW.sz + 1) = i * 2 + 1 by show 0 + (i * 2 + 1) = i * 2 + 1; omega] at this
        exact this)
    have HG3 := hid hg3
    have HSO := hid (sortW_any g2 c2 (ways S.back).toArray w3 HH2.out (by rw [HDS.out]; exact hbn))
    rw [HDS.out] at HSO
    have HNG := hid (show g1 ≠ g2 from fun e => (HR3.out.1 g2 rfl).2 e.symm)
    have HNQ := hid (show B + 1 + 1 ≠ g2 from blk_ne HK3.out hcs2 (by decide))
    go_upto_region 8 with (go_at_call 39; refine HSO.out.mono ?_; rintro e w4 ⟨rfl, d', hp, hs, hw⟩; have HO := hid (once_law (d := (ways S.back).toArray) (by rw [HDS.out]; exact hp) (by rw [HDS.out]; exact hs)); have HSW := hid hw; have HSZ := hid (hp.1.trans HDS.out); clear hp hs hw)
    have HK4 := hid ((HSW.out.block _ (blk_lt HK3.out) HNQ.out).trans HK3.out)
    have HB4 := hid (show Below (B + 2) w2 w4 from HB3.out.trans (HSW.out.below.mono (by have := HG3.out; have := HN3.out; omega)))
    have HA5 := hid (HA4.out.move (HSW.out.block g1 (by have := HA2.out; omega) HNG.out))
    have HCT := hid (compact_any g2 c2 d' w4 HSW.out.row (by rw [HSZ.out]; exact hbn) (by rw [HSZ.out]; exact hcc2))
    rw [HSZ.out] at HCT
    have KR0 := hid ((HB4.out.block (B + 1) (by omega)).trans HN2.out)
    have HGL := hid (show g1 < w4.heap.size by have := HA2.out; have := HSW.out.size; omega)
    have d2 := blk_cell HK4.out 1
    have x0 := blk_cell HK4.out 0
    have x2 := blk_frozen HK4.out 1
    clear d1 hcs2 hC2
    go_wp2_with (go_at_call 42; refine HCT.out.mono ?_; rintro e w5 ⟨n, rfl, hC5⟩; have HC5 := hid hC5; clear hC5; have HK5 := hid ((HC5.out.block _ (blk_lt HK4.out) HNQ.out).trans HK4.out); have HB5 := hid (show Below (B + 2) w2 w5 from HB4.out.trans (HC5.out.below.mono (by have := HG3.out; have := HN3.out; omega))); have HA6 := hid (HA5.out.move (HC5.out.block g1 HGL.out HNG.out)); have KR := (HB5.out.block (B + 1) (by omega)).trans HN2.out; have HKR := hid KR; have x3 := blk_cell HK5.out 0; have x4 := blk_cell HK5.out 1; have x5 := blk_frozen HK5.out 1; have y0 := blk_cell KR 0; have y1 := blk_cell KR 1; have z0 := blk_frozen KR 0; have z1 := blk_frozen KR 1; clear KR)
    refine bodyPost_ret (results_single rfl (.cell (B + 1) 54 #[.slice (some ⟨g1, 0, none⟩) S.done.length c1, .slice (some ⟨g2, 0, none⟩) n c2] (0, 0) _ rfl (blk_put (blk_put (blk_far HKR.out (by show B + 1 ≠ B + 1 + 1; omega) _) 0 _ rfl) 1 _ rfl) Try.underlying54 rfl (by kernel_rfl) .nil)) rfl ?_
    have hlen := HC5.out.len
    have HE := fun u v x => look_end (bk := Lib.compactUpTo d' d'.size) (A2 := some ⟨g2, 0, none⟩) (l := (ints S.done).reverse) (n := S.done.length) HBe.out HB2.out HN3.out HB5.out (by rw [List.length_reverse, ints_len]) hdn (Ne.symm HNP.out) HG1.out HA6.out ⟨by
      have : (Lib.compactUpTo d' d'.size).length ≤ d'.size := by unfold Lib.compactUpTo; rw [List.length_map]; exact Nat.le_trans (List.length_filter_le _ _) (by simp)
      have := HSZ.out
      omega, fun _ => ⟨g2, rfl, Ne.symm HNQ.out, by have := HG3.out; have := HN3.out; omega, HC5.out.cells⟩⟩ u v x
    obtain ⟨p1, p2, p3⟩ := HE _ _ _
    unfold LookPost
    rw [HSS.out]
    exact ⟨_, _, _, _, Lib.compactUpTo d' d'.size, by rw [hlen], by rw [show ints S.done.reverse = (ints S.done).reverse by simp [ints]]; exact p1, p2, HO.out.1, HO.out.2, hcc1, p3, g1, rfl, by rw [HBe.out]; have := HG1.out; omega⟩
end Go.Proofs.Ythjjkpkohhmgcaa

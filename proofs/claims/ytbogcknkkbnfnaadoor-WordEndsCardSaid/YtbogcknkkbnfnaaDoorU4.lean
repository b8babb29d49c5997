/- Texts laid as one: Oj Ol. -/
import Derived.Test.YtbogcknkkbnfnaaDoorU3
import Derived.Test.YtbogcknkkbnfnaaDoorQp
import Derived.Deep.RegionHeld3
import Derived.Deep.DrawnRows
import Derived.Laws.MakeOwn
import Derived.Test.YtbogcknkkbnfnaaDoorRw
/- The package word: lists: what two rows of words come to. -/
namespace Go.Proofs.YtbogcknkkbnfnaaDoor
open Go.RowKit Go.Proofs.YtbogcknkkbnfnaaDoorW.PrintWords Go.Maps Go.WideMaps
attribute [local go_sem ↓] Go.wp_at_zero Go.wp_at_succ

theorem infoWd : (Tryd.prog.info? 35).map (fun i => (i.zero, i.size, i.bytes)) = some (some (.agg #[.int .i64 0, .int .i64 0, .string ⟨#[]⟩]), 3, 32) := by kernel_rfl
theorem wd_zeros (n : Nat) : madeCells #[.int .i64 0, .int .i64 0, .string ⟨#[]⟩] (n * 3) = ((List.replicate n zWd).flatMap Wd.cells ++ []).toArray := by
  apply Array.toList_inj.1
  apply List.ext_getElem?
  intro j
  by_cases hj : j < n * 3
  · have h1 := wflat_get (List.replicate n zWd) [] (j / 3) (j % 3) (by rw [List.length_replicate]; omega) (by omega)
    rw [show j / 3 * 3 + j % 3 = j by omega] at h1
    rw [List.toList_toArray, h1]
    have h2 : (List.replicate n zWd).getD (j / 3) zWd = zWd := by simp [List.getD, List.getElem?_replicate]; split <;> rfl
    rw [h2]
    have h3 : j % 3 = 0 ∨ j % 3 = 1 ∨ j % 3 = 2 := by omega
    rcases h3 with h3 | h3 | h3 <;> simp [madeCells, hj, h3, Wd.cells, zWd]
  · have h1 : ((List.replicate n zWd).flatMap Wd.cells).length = n * 3 := by rw [wflat_len, List.length_replicate]
    rw [List.getElem?_eq_none (by simp [madeCells]; omega), List.getElem?_eq_none (by simp [h1]; omega)]
set_option maxRecDepth 100000 in
theorem mk_words (N : Nat) (hN : N ≤ 255) (W : World) : (Instr.makeSlice 31 (.int .i64 (N : Int)) (.int .i64 (N : Int))).run Tryd.prog W = .ok (.slice (some ⟨W.heap.size, 0, none⟩) N N) (W.alloc (.cells ((List.replicate N zWd).flatMap Wd.cells).toArray 35)) := by
  obtain ⟨i0, hi, hzz⟩ := Option.map_eq_some_iff.1 infoWd
  simp only [Prod.mk.injEq] at hzz
  obtain ⟨hz0, hz1, hz2⟩ := hzz
  have hr := run_make (P := Tryd.prog) W 31 35 i0 _ (by exact Tryd.underlying31) hi hz0 .i64 .i64 (N : Int) (N : Int) (by omega) (by omega) (by rw [hz2]; omega) (by omega)
  simp only [Int.toNat_natCast] at hr
  rw [hz1] at hr
  rw [hr]
  rw [show (Value.agg #[.int .i64 0, .int .i64 0, .string ⟨#[]⟩]).cells = #[.int .i64 0, .int .i64 0, .string ⟨#[]⟩] from rfl, wd_zeros, List.append_nil]
def laysWdRen : Go.Shelf.Ren := ⟨fun | 41 => 107 | n => n, fun | 22 => 31 | 23 => 35 | 4 => 4 | n => n, fun | n => n⟩
theorem laysWd : Go.Proofs.SlLaysE0.n41 Tryd.prog laysWdRen := {
  mixed := by kernel_rfl
  f41 := ⟨Tryd.f107.name, by decide, Tryd.func107.trans (congrArg some (by kernel_rfl))⟩
  t4 := Tryd.underlying4
  a4 := Tryd.isAgg4
  z4 := Tryd.sizeOf4
  v4 := Tryd.zeroValue4
  t22 := Tryd.underlying31
  a22 := Tryd.isAgg31
  z22 := Tryd.sizeOf31
  v22 := Tryd.zeroValue31 }
open Go.Lib in
theorem cloneWdRaw (i0 : TypeInfo) (z : Value) (size bytes : Nat) (hi : Tryd.prog.info? 35 = some i0) (hz0 : i0.zero = some z) (hz1 : i0.size = size) (hz2 : i0.bytes = bytes) (hzs : z.cells.size = size) (hsz : 0 < size) (z23 : ∀ w, (Go.sizeOf 35).run Tryd.prog w = .ok size w) (b off n c : Nat) (news : List Value) (w : World) (hl : news.length = n * size) (hn : n ≤ maxLen) (hbig : n * bytes ≤ 140737488355328) (hc : ∀ j u, news[j]? = some u → w.cell? ⟨b, off + j, none⟩ = some u) (h1 : ∀ u ∈ news, u.oneCell' = true) :
    Calls Tryd.prog 107 #[.slice (some ⟨b, off, none⟩) n c] w fun e w' => ∃ v', e = .returned v' ∧ w'.ownsRow w.heap.size 35 size v' n news ∧ v' ≠ .slice none 0 0 ∧ Below w.heap.size w w' := AnyE.slices_Clone laysWd i0 z size bytes hi hz0 hz1 hz2 hzs hsz z23 b off n c news w hl hn hbig hc h1
set_option maxRecDepth 100000 in
theorem cloneWdZero (a : Addr) (c : Nat) (w : World) :
    Calls Tryd.prog 107 #[.slice (some a) 0 c] w fun e w' => (∃ b c', e = .returned (.slice b 0 c')) ∧ Below w.heap.size w w' := by
  have qT : ∀ (w : World) (a : Option Addr) (n c n' c' : Nat), (binOp .eql 31 (.slice a n c) (.slice none n' c')).run Tryd.prog w = .ok (.bool a.isNone) w := fun w a n c n' c' => Lib.run_eql_slice_nil w _ _ a n c n' c' Tryd.underlying31
  go_enter Tryd.func107, Tryd.ntmps107
  go_wp2
  go_ret
  exact ⟨⟨_, _, rfl⟩, below_alloc (Below.refl _ _) _⟩
theorem wcells_one (e : Wd) : ∀ u ∈ e.cells, u.oneCell' = true := by
  intro u hu
  simp only [Wd.cells, List.mem_cons, List.not_mem_nil, or_false] at hu
  rcases hu with rfl | rfl | rfl <;> rfl
/-- A copy of a row of words that lies whole in a block. -/
theorem cloneWd_any (g c : Nat) (l : List Wd) (w : World) (h : WRow g [] l w) (hb : l.length ≤ 255) :
    Calls Tryd.prog 107 #[.slice (some ⟨g, 0, none⟩) l.length c] w fun e w' => ∃ A c', e = .returned (.slice A l.length c') ∧ (0 < l.length → ∃ q tl, A = some ⟨q, 0, none⟩ ∧ w.heap.size ≤ q ∧ WRow q tl l w') ∧ Below w.heap.size w w' := by
  by_cases h0 : 0 < l.length
  · obtain ⟨i0, hi, hz⟩ := Option.map_eq_some_iff.1 infoWd
    simp only [Prod.mk.injEq] at hz
    obtain ⟨hz0, hz1, hz2⟩ := hz
    refine (cloneWdRaw i0 _ 3 32 hi hz0 hz1 hz2 rfl (by decide) Tryd.sizeOf35 g 0 l.length c (l.flatMap Wd.cells) w (wflat_len l) (by unfold maxLen; omega) (by omega) (fun q u hu => ?_) (fun u hu => ?_)).mono ?_
    · rw [Nat.zero_add, blk_cell h q]
      rw [List.append_nil]
      simpa using hu
    · obtain ⟨e, _, he⟩ := List.mem_flatMap.1 hu
      exact wcells_one e u he
    · rintro e w' ⟨v', he, ho, hne, hB⟩
      rcases ho.2 with ⟨rfl, _⟩ | ⟨q, cap, cur, rfl, hg, hh, hf, hx⟩
      · exact absurd rfl hne
      · refine ⟨_, cap, he, fun _ => ⟨q, cur.toList.drop (l.length * 3), rfl, hg, ?_⟩, hB⟩
        unfold WRow
        rw [← hx.2.2, List.take_append_drop]
        simpa using hh
  · have e0 : l.length = 0 := by omega
    rw [e0]
    exact (cloneWdZero _ c w).mono fun e w' ⟨⟨b, c', he⟩, hB⟩ => ⟨b, c', he, fun h => by omega, hB⟩
/-- Words, so far. -/
def midL (L : List Cl) (a b : List Wd) (i : Nat) : List Wd := (List.range a.length).map fun j => if j < i then mrgW L (a.getD j zWd) (b.getD j zWd) else zWd
def midC (l : List Wd) (i : Nat) : List Wd := (List.range l.length).map fun j => if j < i then (if brokenW l j then zWd else l.getD j zWd) else l.getD j zWd
theorem midL_len (L : List Cl) (a b : List Wd) (i : Nat) : (midL L a b i).length = a.length := by simp [midL]
theorem midC_len (l : List Wd) (i : Nat) : (midC l i).length = l.length := by simp [midC]
theorem midL_zero (L : List Cl) (a b : List Wd) : midL L a b 0 = List.replicate a.length zWd := by
  unfold midL
  apply List.ext_getElem (by simp)
  intro j h1 h2
  simp
theorem midL_set (L : List Cl) (a b : List Wd) (i : Nat) : (midL L a b i).set i (mrgW L (a.getD i zWd) (b.getD i zWd)) = midL L a b (i + 1) := by
  apply List.ext_getElem (by simp [midL])
  intro j h1 h2
  rw [List.getElem_set]
  simp only [midL, List.getElem_map, List.getElem_range]
  by_cases e : i = j
  · subst e; rw [if_pos rfl, if_pos (show i < i + 1 by omega)]
  · rw [if_neg e]
    by_cases hj : j < i
    · rw [if_pos hj, if_pos (show j < i + 1 by omega)]
    · rw [if_neg hj, if_neg (show ¬ j < i + 1 by omega)]
theorem midL_all (L : List Cl) (a b : List Wd) : midL L a b a.length = mrgL L a b := by
  apply List.ext_getElem (by simp [midL, mrgL])
  intro j h1 h2
  simp only [midL, mrgL, List.getElem_map, List.getElem_range]
  rw [if_pos (by simpa [midL] using h1)]
theorem midC_zero (l : List Wd) : midC l 0 = l := by
  apply List.ext_getElem (by simp [midC])
  intro j h1 h2
  simp [midC, List.getD, h2]
theorem midC_keep (l : List Wd) (i : Nat) (h : brokenW l i = false) : midC l i = midC l (i + 1) := by
  apply List.ext_getElem (by simp [midC])
  intro j h1 h2
  simp only [midC, List.getElem_map, List.getElem_range]
  by_cases e : j = i
  · subst e; rw [if_neg (show ¬ j < j by omega), if_pos (show j < j + 1 by omega), h]; rfl
  · by_cases hj : j < i
    · rw [if_pos hj, if_pos (show j < i + 1 by omega)]
    · rw [if_neg hj, if_neg (show ¬ j < i + 1 by omega)]
theorem midC_cut (l : List Wd) (i : Nat) (h : brokenW l i = true) : (midC l i).set i zWd = midC l (i + 1) := by
  apply List.ext_getElem (by simp [midC])
  intro j h1 h2
  rw [List.getElem_set]
  simp only [midC, List.getElem_map, List.getElem_range]
  by_cases e : i = j
  · subst e; rw [if_pos rfl, if_pos (show i < i + 1 by omega), h]; rfl
  · rw [if_neg e]
    by_cases hj : j < i
    · rw [if_pos hj, if_pos (show j < i + 1 by omega)]
    · rw [if_neg hj, if_neg (show ¬ j < i + 1 by omega)]
theorem midC_all (l : List Wd) : midC l l.length = cutL l := by
  apply List.ext_getElem (by simp [midC, cutL])
  intro j h1 h2
  simp only [midC, cutL, List.getElem_map, List.getElem_range]
  rw [if_pos (by simpa [midC] using h1)]
theorem WRow.frz {g : Nat} {tl : List Value} {d : List Wd} {w : World} (h : WRow g tl d w) (j : Nat) : w.frozen? ⟨g, j, none⟩ = false := blk_frozen h j
/-- A row of words that a call has made, from base on. -/
def LRow (base : Nat) (A : Option Addr) (n : Nat) (d : List Wd) (w : World) : Prop := d.length = n ∧ (0 < n → ∃ q tl, A = some ⟨q, 0, none⟩ ∧ base ≤ q ∧ WRow q tl d w)
theorem LRow.C {base : Nat} {A : Option Addr} {n : Nat} {d : List Wd} {w : World} (h : LRow base A n d w) (hn : n ≤ 9223372036854775807) : kWd.C w A n d := by
  obtain ⟨h1, h2⟩ := h
  by_cases h0 : 0 < n
  · obtain ⟨q, tl, rfl, _, hR⟩ := h2 h0
    have := hR.C (by omega)
    rw [h1] at this
    exact this
  · exact ⟨h1, by omega, fun h => absurd h h0⟩
theorem LRow.step {base : Nat} {A : Option Addr} {n : Nat} {d : List Wd} {w w' : World} (h : LRow base A n d w) (hb : Below w.heap.size w w') : LRow base A n d w' :=
  ⟨h.1, fun h0 => by obtain ⟨q, tl, e, hq, hR⟩ := h.2 h0; exact ⟨q, tl, e, hq, hR.below hb⟩⟩
theorem LRow.lower {base base' : Nat} {A : Option Addr} {n : Nat} {d : List Wd} {w : World} (h : LRow base A n d w) (hb : base' ≤ base) : LRow base' A n d w :=
  ⟨h.1, fun h0 => by obtain ⟨q, tl, e, hq, hR⟩ := h.2 h0; exact ⟨q, tl, e, by omega, hR⟩⟩
theorem LRow.put2 {base : Nat} {A : Option Addr} {n : Nat} {d : List Wd} {w : World} (h : LRow base A n d w) {k : Nat} (hk : k < base) (u v : Value) : LRow base A n d ((w.setCell ⟨k, 0, none⟩ u).setCell ⟨k, 1, none⟩ v) :=
  ⟨h.1, fun h0 => by obtain ⟨q, tl, e, hq, hR⟩ := h.2 h0; exact ⟨q, tl, e, hq, blk_far (blk_far hR (by show q ≠ k; omega) _) (by show q ≠ k; omega) _⟩⟩
set_option maxRecDepth 100000 in
set_option maxHeartbeats 8000000 in
theorem wlists_any {B p : Nat} {L : List Cl} {w : World} (h : IsSet B p L w) (hO : Wob w) (A1 A2 : Option Addr) (c1 c2 n : Nat) (a b : List Wd) (h1 : kWd.C w A1 n a) (h2 : kWd.C w A2 n b) (hb : n ≤ 255) (s1 : szW a) (s2 : szW b) :
    Calls Tryd.prog 54 #[.pointer (some ⟨p, 0, none⟩), .slice A1 n c1, .slice A2 n c2] w fun e w' => ∃ A c, e = .returned (.slice A n c) ∧ LRow w.heap.size A n (listsW L a b) w' ∧ Below w.heap.size w w' := by
  have HS := hid h
  have HO := hid hO
  have H1 := hid h1
  have H2 := hid h2
  have S1 := hid s1
  have S2 := hid s2
  have N1 := hid h1.1
  have N2 := hid h2.1
  have hmk := mk_words n hb
  have HW0 := hid (show WRow w.heap.size [] (midL L a b 0) (w.alloc (.cells ((List.replicate n zWd).flatMap Wd.cells).toArray 35)) by unfold WRow; rw [midL_zero, N1.out, List.append_nil]; exact blk_new w _)
  have HB0 := hid (below_alloc (Below.refl w.heap.size w) (.cells ((List.replicate n zWd).flatMap Wd.cells).toArray 35))
  clear h hO h1 h2 s1 s2
  go_enter Tryd.func54, Tryd.ntmps54
  go_upto_region 2 with fail
  clear hmk
  generalize w.alloc (.cells ((List.replicate n zWd).flatMap Wd.cells).toArray 35) = w1 at *
  go_wp2
  go_loopw [16] (fun iV wr => ∃ i : Nat, i ≤ n ∧ iV = .int .i64 i ∧ Hid (Below w.heap.size w wr) ∧ Hid (WRow w.heap.size [] (midL L a b i) wr)) (fun iV _ => n - (intOf iV).toNat)
  case atStart => exact ⟨0, by omega, rfl, HB0, HW0⟩
  obtain ⟨i, hi, rfl, HB, HW⟩ := hrel
  clear HB0 HW0
  by_cases hlt : i < n
  · obtain ⟨b1, o1, rfl⟩ := C_plain H1.out (by omega) (by decide)
    obtain ⟨b2, o2, rfl⟩ := C_plain H2.out (by omega) (by decide)
    obtain ⟨d0, d1, d2⟩ := wd_at H1.out hlt
    obtain ⟨e0, e1, e2⟩ := wd_at H2.out hlt
    have hx := S1.out _ (wd_mem (l := a) (i := i) (by rw [N1.out]; exact hlt))
    have hy := S2.out _ (wd_mem (l := b) (i := i) (by rw [N2.out]; exact hlt))
    have HM := hid (fun (W : World) (hW : Below w.heap.size w W) => merge_any (HS.out.step hW) (HO.out.below HO.out.lt hW) (a.getD i zWd) (b.getD i zWd) hx hy)
    have HSET := hid (midL_set L a b i)
    have hml : i < (midL L a b i).length := by rw [midL_len, N1.out]; exact hlt
    have HML := hid hml
    have hzg := blk_lt HW.out
    clear hx hy hml
    generalize a.getD i zWd = x at *
    generalize b.getD i zWd = y at *
    generalize mrgW L x y = z at *
    obtain ⟨xk, xt, xn⟩ := x
    obtain ⟨yk, yt, yn⟩ := y
    obtain ⟨zk, zt, zn⟩ := z
    simp only at d0 d1 d2 e0 e1 e2
    have li : (i : Int) < n := by omega
    have l0 : (0 : Int) ≤ (i : Int) := by omega
    have HKP := hid (fun w' (hb : Below w.heap.size w w') => (⟨hb, (hb.cell (World.block_lt_of_cell? w _ d0)).trans d0, (hb.cell (World.block_lt_of_cell? w _ d1)).trans d1, (hb.cell (World.block_lt_of_cell? w _ d2)).trans d2, (hb.cell (World.block_lt_of_cell? w _ e0)).trans e0, (hb.cell (World.block_lt_of_cell? w _ e1)).trans e1, (hb.cell (World.block_lt_of_cell? w _ e2)).trans e2⟩ : Below w.heap.size w w' ∧ w'.cell? ⟨b1, o1 + i * 3, none⟩ = some (.int .i64 xk) ∧ w'.cell? ⟨b1, o1 + i * 3 + 1, none⟩ = some (.int .i64 xt) ∧ w'.cell? ⟨b1, o1 + i * 3 + 2, none⟩ = some (.string xn) ∧ w'.cell? ⟨b2, o2 + i * 3, none⟩ = some (.int .i64 yk) ∧ w'.cell? ⟨b2, o2 + i * 3 + 1, none⟩ = some (.int .i64 yt) ∧ w'.cell? ⟨b2, o2 + i * 3 + 2, none⟩ = some (.string yn)))
    clear d0 d1 d2 e0 e1 e2
    go_wp2_with fail
    go_region_held3 (fun w' => Below w.heap.size w w' ∧ w'.cell? ⟨b1, o1 + i * 3, none⟩ = some (.int .i64 xk) ∧ w'.cell? ⟨b1, o1 + i * 3 + 1, none⟩ = some (.int .i64 xt) ∧ w'.cell? ⟨b1, o1 + i * 3 + 2, none⟩ = some (.string xn) ∧ w'.cell? ⟨b2, o2 + i * 3, none⟩ = some (.int .i64 yk) ∧ w'.cell? ⟨b2, o2 + i * 3 + 1, none⟩ = some (.int .i64 yt) ∧ w'.cell? ⟨b2, o2 + i * 3 + 2, none⟩ = some (.string yn))
      (first | exact HKP.out _ (below_drew HB.out) | exact HKP.out _ (by assumption) | exact HKP.out _ ((((show Below w.heap.size w w4 by assumption).setCell (Nat.le_refl _) _).setCell (Nat.le_refl _) _).setCell (Nat.le_refl _) _))
      (first | (go_at_call 49; refine (HM.out _ (below_drew HB.out)).mono ?_; rintro e w4 ⟨rfl, hB4⟩; have hB5 := bel_tr (a := wr) (below_drew (Below.refl _ _)) hB4; clear hB4; have HR4 := hid (HW.out.below hB5); have hB6 := below_weaken HB.out HB.out.size hB5; clear hB5; have r0 := HR4.out.cell i 0 HML.out (by decide); have r1 := HR4.out.cell i 1 HML.out (by decide); have r2 := HR4.out.cell i 2 HML.out (by decide); have f0 := HR4.out.frz (i * 3); have f1 := HR4.out.frz (i * 3 + 1); have f2 := HR4.out.frz (i * 3 + 2); simp only [Nat.add_zero, Wd.cells, List.getElem?_cons_zero, List.getElem?_cons_succ] at r0 r1 r2))
    have HPUT := hid (HR4.out.put i ⟨zk, zt, zn⟩ HML.out)
    have HB7 := hid (((hB6.setCell (p := ⟨w.heap.size, i * 3, none⟩) (Nat.le_refl _) (.int .i64 zk)).setCell (p := ⟨w.heap.size, i * 3 + 1, none⟩) (Nat.le_refl _) (.int .i64 zt)).setCell (p := ⟨w.heap.size, i * 3 + 2, none⟩) (Nat.le_refl _) (.string zn))
    rw [HSET.out] at HPUT
    clear r0 r1 r2 f0 f1 f2 hB6 HR4
    generalize ((w4.setCell ⟨w.heap.size, i * 3, none⟩ (.int .i64 zk)).setCell ⟨w.heap.size, i * 3 + 1, none⟩ (.int .i64 zt)).setCell ⟨w.heap.size, i * 3 + 2, none⟩ (.string zn) = w6 at *
    rename_i hHeld
    clear hHeld
    go_wp2
    go_roundw
    case rel => exact ⟨i + 1, by omega, by go_num, HB7, HPUT⟩
    case measure => simp [intOf]; omega
  · obtain rfl : i = n := by omega
    obtain ⟨wz, rfl⟩ : ∃ x, x = wr := ⟨_, rfl⟩
    have HM2 := hid (show WRow w.heap.size [] (mrgL L a b) wz from by have := HW.out; rw [← N1.out, midL_all] at this; exact this)
    have HML := hid (show (mrgL L a b).length = i from by rw [mrgL_len, N1.out])
    have HRES := hid (show cutL (mrgL L a b) = listsW L a b from rfl)
    clear HW
    generalize mrgL L a b = ml at *
    have HCL := hid (show Calls Tryd.prog 107 #[.slice (some ⟨w.heap.size, 0, none⟩) i i] wz fun e w' => ∃ A c', e = .returned (.slice A i c') ∧ (0 < i → ∃ q tl, A = some ⟨q, 0, none⟩ ∧ wz.heap.size ≤ q ∧ WRow q tl ml w') ∧ Below wz.heap.size wz w' from by
      have := cloneWd_any w.heap.size i ml wz HM2.out (by rw [HML.out]; exact hb)
      rw [HML.out] at this
      exact this)
    go_wp2_with (go_at_call 107; refine HCL.out.mono ?_; rintro e w5 ⟨A5, c5, rfl, hA5, hB5⟩; have HA5 := hid hA5; have HB5 := hid hB5; clear hA5 hB5)
    have hzg := blk_lt HM2.out
    go_loopw [37] (fun iV wr => ∃ k : Nat, k ≤ i ∧ iV = .int .i64 k ∧ Hid (Below wz.heap.size wz wr) ∧ Hid (0 < i → ∃ q tl, A5 = some ⟨q, 0, none⟩ ∧ wz.heap.size ≤ q ∧ WRow q tl (midC ml k) wr)) (fun iV _ => i - (intOf iV).toNat)
    case atStart => exact ⟨0, by omega, rfl, HB5, by rw [midC_zero]; exact HA5⟩
    obtain ⟨k, hk, rfl, HBq, HQ⟩ := hrel
    clear HA5 HB5
    by_cases hlt2 : k < i
    · obtain ⟨q, tl, hA, hq, hR⟩ := HQ.out (by omega)
      subst hA
      have HR := hid hR
      have HQL := hid hq
      have hML : k < (midC ml k).length := by rw [midC_len, HML.out]; exact hlt2
      have HKL := hid hML
      obtain ⟨bk, hbk⟩ : ∃ x, brokenW ml k = x := ⟨_, rfl⟩
      have HBR := hid (show Calls Tryd.prog 108 #[.slice (some ⟨w.heap.size, 0, none⟩) i i, .int .i64 k] wr fun e w' => e = .returned (.bool bk) ∧ w' = wr from by
        have hC := (HM2.out.below HBq.out).C (by rw [HML.out]; omega)
        rw [HML.out] at hC
        have := broken_any (some ⟨w.heap.size, 0, none⟩) i i ml wr hC (by omega) k hlt2
        rw [hbk] at this
        exact this)
      have HBK := hid hbk
      have lk : (k : Int) < i := by omega
      have r0 := hR.cell k 0 hML (by decide)
      have r1 := hR.cell k 1 hML (by decide)
      have r2 := hR.cell k 2 hML (by decide)
      simp only [Nat.add_zero, Wd.cells, List.getElem?_cons_zero, List.getElem?_cons_succ] at r0 r1 r2
      have f0 := hR.frz (k * 3)
      have f1 := hR.frz (k * 3 + 1)
      have f2 := hR.frz (k * 3 + 2)
      have zq := blk_lt hR
      clear hR hbk hML hq HQ
      cases bk with
      | false =>
        have HKE := hid (midC_keep ml k HBK.out)
        go_wp2_with (go_at_call 108; refine HBR.out.mono ?_; rintro e w' ⟨rfl, hw⟩; obtain rfl := hw.symm)
        go_roundw
        case rel => exact ⟨k + 1, by omega, by go_num, HBq, hid (fun _ => ⟨q, tl, rfl, HQL.out, by rw [← HKE.out]; exact HR.out⟩)⟩
        case measure => simp [intOf]; omega
      | true =>
        have HKE := hid (midC_cut ml k HBK.out)
        go_wp2_with (go_at_call 108; refine HBR.out.mono ?_; rintro e w' ⟨rfl, hw⟩; obtain rfl := hw.symm)
        go_roundw
        case rel => exact ⟨k + 1, by omega, by go_num, hid (((HBq.out.setCell HQL.out _).setCell HQL.out _).setCell HQL.out _), hid (fun _ => ⟨q, tl, rfl, HQL.out, by rw [← HKE.out]; exact HR.out.put k zWd HKL.out⟩)⟩
        case measure => simp [intOf]; omega
    · obtain rfl : k = i := by omega
      have HC := hid (show LRow w.heap.size A5 k (cutL ml) wr from by
        have e := midC_all ml
        rw [HML.out] at e
        rw [← e]
        refine ⟨by rw [midC_len, HML.out], fun h0 => ?_⟩
        obtain ⟨q, tl, hA, hq, hR⟩ := HQ.out h0
        exact ⟨q, tl, hA, by have := HB.out.size; omega, hR⟩)
      go_wp2
      go_ret
      exact ⟨_, _, rfl, by rw [← HRES.out]; exact HC.out, below_weaken HB.out HB.out.size HBq.out⟩
end Go.Proofs.YtbogcknkkbnfnaaDoor

/- The package word: Frames. Printed by mkol.py. -/
namespace Go.Proofs.YtbogcknkkbnfnaaDoor
open Go.RowKit Go.Proofs.YtbogcknkkbnfnaaDoorW.PrintWords Go.Maps Go.WideMaps
attribute [local go_sem ↓] Go.wp_at_zero Go.wp_at_succ

/-- Do two frames come to one? -/
def okF (L : List Cl) (al sa bl sb : List Wd) : Bool := mayFrameW L al sa && (mayFrameW L bl sb && (decide (al.length = bl.length) && (decide (sa.length = sb.length) && knownW (listsW L sa sb))))
/-- What Frames answers. -/
def FrPost (L : List Cl) (al sa bl sb : List Wd) (w : World) (e : Ending) (w' : World) : Prop :=
  Below w.heap.size w w' ∧ ((okF L al sa bl sb = true ∧ ∃ A c A' c', e = .returned (.tuple #[.agg #[.slice A al.length c, .slice A' sa.length c'], .bool true]) ∧ LRow w.heap.size A al.length (listsW L al bl) w' ∧ LRow w.heap.size A' sa.length (listsW L sa sb) w') ∨
    (okF L al sa bl sb = false ∧ e = .returned (.tuple #[.agg #[.slice none 0 0, .slice none 0 0], .bool false])))
theorem mayFrame_len {L : List Cl} {l s : List Wd} (h : mayFrameW L l s = true) : l.length ≤ 255 ∧ s.length ≤ 255 := by
  unfold mayFrameW mayListW at h
  simp only [Bool.and_eq_true, decide_eq_true_eq] at h
  exact ⟨h.1.2, h.2.1.2⟩
theorem two_below {w w3 w' : World} (h : Below w.heap.size w w3) (hb : Below w3.heap.size w3 w') {k : Nat} (hk : w.heap.size ≤ k) (u v : Value) : Below w.heap.size w ((w'.setCell ⟨k, 0, none⟩ u).setCell ⟨k, 1, none⟩ v) := ((below_weaken h h.size hb).setCell hk _).setCell hk _
set_option maxRecDepth 100000 in
set_option maxHeartbeats 2000000 in
theorem frames_any {B p : Nat} {L : List Cl} {w : World} (h : IsSet B p L w) (hO : Wob w) (A1 A2 B1 B2 : Option Addr) (c1 c2 d1 d2 n1 n2 m1 m2 : Nat) (al sa bl sb : List Wd) (h1 : kWd.C w A1 n1 al) (h2 : kWd.C w A2 n2 sa) (h3 : kWd.C w B1 m1 bl) (h4 : kWd.C w B2 m2 sb) (b1 : n1 ≤ 5864062014805) (b2 : n2 ≤ 5864062014805) (b3 : m1 ≤ 5864062014805) (b4 : m2 ≤ 5864062014805) (s1 : szW al) (s2 : szW sa) (s3 : szW bl) (s4 : szW sb) :
    Calls Tryd.prog 16 #[.pointer (some ⟨p, 0, none⟩), .agg #[.slice A1 n1 c1, .slice A2 n2 c2], .agg #[.slice B1 m1 d1, .slice B2 m2 d2]] w (FrPost L al sa bl sb w) := by
  have HB3 := hid (below_alloc (below_alloc (below_alloc (Below.refl w.heap.size w) (.cells #[.slice A1 n1 c1, .slice A2 n2 c2] 40)) (.cells #[.slice B1 m1 d1, .slice B2 m2 d2] 40)) (.cells #[.slice none 0 0, .slice none 0 0] 40))
  have k1 := blk_alloc (blk_alloc (blk_new w (.cells #[.slice A1 n1 c1, .slice A2 n2 c2] 40)) (.cells #[.slice B1 m1 d1, .slice B2 m2 d2] 40)) (.cells #[.slice none 0 0, .slice none 0 0] 40)
  have k2 := blk_alloc (blk_new (w.alloc (.cells #[.slice A1 n1 c1, .slice A2 n2 c2] 40)) (.cells #[.slice B1 m1 d1, .slice B2 m2 d2] 40)) (.cells #[.slice none 0 0, .slice none 0 0] 40)
  have k3 := blk_new ((w.alloc (.cells #[.slice A1 n1 c1, .slice A2 n2 c2] 40)).alloc (.cells #[.slice B1 m1 d1, .slice B2 m2 d2] 40)) (.cells #[.slice none 0 0, .slice none 0 0] 40)
  simp only [World.size_alloc] at k2 k3
  have K1 := hid k1
  have K2 := hid k2
  have K3 := hid k3
  have HN1 := hid h1.1
  have HN2 := hid h2.1
  have HN3 := hid h3.1
  have HN4 := hid h4.1
  obtain ⟨w3, hw3⟩ : ∃ X, ((w.alloc (.cells #[.slice A1 n1 c1, .slice A2 n2 c2] 40)).alloc (.cells #[.slice B1 m1 d1, .slice B2 m2 d2] 40)).alloc (.cells #[.slice none 0 0, .slice none 0 0] 40) = X := ⟨_, rfl⟩
  have HW3 := hid hw3
  rw [hw3] at HB3 K1 K2 K3
  have HS := hid (h.step HB3.out)
  have HO := hid (hO.below hO.lt (HB3.out.mono (by have := hO.lt; omega)))
  have H1 := hid (Kd.C_below h1 HB3.out)
  have H2 := hid (Kd.C_below h2 HB3.out)
  have H3 := hid (Kd.C_below h3 HB3.out)
  have H4 := hid (Kd.C_below h4 HB3.out)
  have HOW := hid (fun (W : World) (hW : Below w3.heap.size w3 W) => HO.out.below HO.out.lt hW)
  obtain ⟨ma, hma⟩ : ∃ x, mayFrameW L al sa = x := ⟨_, rfl⟩
  obtain ⟨mb, hmb⟩ : ∃ x, mayFrameW L bl sb = x := ⟨_, rfl⟩
  have HM := hid (fun (A A' : Option Addr) (n n' c c' : Nat) (v : Bool) (W : World) (hW : Below w3.heap.size w3 W) (q : (A = A1 ∧ A' = A2 ∧ n = n1 ∧ n' = n2 ∧ c = c1 ∧ c' = c2 ∧ v = ma) ∨ (A = B1 ∧ A' = B2 ∧ n = m1 ∧ n' = m2 ∧ c = d1 ∧ c' = d2 ∧ v = mb)) => (show Calls Tryd.prog 53 #[.pointer (some ⟨p, 0, none⟩), .agg #[.slice A n c, .slice A' n' c']] W fun e w' => e = .returned (.bool v) ∧ Below W.heap.size W w' from by
    rcases q with ⟨e1, e2, e3, e4, e5, e6, e7⟩ | ⟨e1, e2, e3, e4, e5, e6, e7⟩
    · rw [e1, e2, e3, e4, e5, e6, e7, ← hma]
      exact may_frame (HS.out.step hW) A1 A2 n1 n2 c1 c2 al sa (Kd.C_below H1.out hW) (Kd.C_below H2.out hW) b1 b2 s1 s2
    · rw [e1, e2, e3, e4, e5, e6, e7, ← hmb]
      exact may_frame (HS.out.step hW) B1 B2 m1 m2 d1 d2 bl sb (Kd.C_below H3.out hW) (Kd.C_below H4.out hW) b3 b4 s3 s4))
  have HP := hid (show ∀ e w', Below w.heap.size w w' → ((okF L al sa bl sb = true ∧ ∃ A c A' c', e = .returned (.tuple #[.agg #[.slice A al.length c, .slice A' sa.length c'], .bool true]) ∧ LRow w.heap.size A al.length (listsW L al bl) w' ∧ LRow w.heap.size A' sa.length (listsW L sa sb) w') ∨
    (okF L al sa bl sb = false ∧ e = .returned (.tuple #[.agg #[.slice none 0 0, .slice none 0 0], .bool false]))) → FrPost L al sa bl sb w e w' from fun e w' h1 h2 => ⟨h1, h2⟩)
  have S1 := hid s1
  have S2 := hid s2
  have S3 := hid s3
  have S4 := hid s4
  have HMA0 := hid hma
  have HMB0 := hid hmb
  have HX0 := hid (Below.refl w3.heap.size w3)
  clear h hO h1 h2 h3 h4 s1 s2 s3 s4 hma hmb k1 k2 k3 hw3
  cases ma with
  | false =>
    have HV := hid (show okF L al sa bl sb = false from by unfold okF; rw [HMA0.out]; rfl)
    go_enter Tryd.func16, Tryd.ntmps16
    go_upto_region 1 with fail
    rw [show ((w.alloc (.cells #[.slice A1 n1 c1, .slice A2 n2 c2] 40)).alloc (.cells #[.slice B1 m1 d1, .slice B2 m2 d2] 40)).alloc (.cells #[.slice none 0 0, .slice none 0 0] 40) = w3 from HW3.out]
    have x0 := blk_cell K1.out 0
    have x1 := blk_cell K1.out 1
    have y0 := blk_cell K2.out 0
    have y1 := blk_cell K2.out 1
    go_wp2_with (go_at_call 53; refine (HM.out _ _ _ _ _ _ _ _ (by first | exact HX1.out | exact HX0.out) (by first | exact .inl ⟨rfl, rfl, rfl, rfl, rfl, rfl, rfl⟩ | exact .inr ⟨rfl, rfl, rfl, rfl, rfl, rfl, rfl⟩)).mono ?_; rintro e w5 ⟨rfl, hB⟩; have HX1 := hid (bel_tr (a := w3) (by first | exact HX1.out | exact HX0.out) hB); clear hB; have u0 := blk_cell (blk_below K1.out HX1.out) 0; have u1 := blk_cell (blk_below K1.out HX1.out) 1; have v0 := blk_cell (blk_below K2.out HX1.out) 0; have v1 := blk_cell (blk_below K2.out HX1.out) 1; have r0 := blk_cell (blk_below K3.out HX1.out) 0; have r1 := blk_cell (blk_below K3.out HX1.out) 1; have f0 := blk_frozen (blk_below K3.out HX1.out) 0; have f1 := blk_frozen (blk_below K3.out HX1.out) 1)
    refine bodyPost_ret (results_list (rs := [.cell 6 40, .tmp 7]) rfl (by simp) (.cell (w.heap.size + 1 + 1) 40 #[.slice none 0 0, .slice none 0 0] (0, 0) _ rfl (blk_put (blk_put (blk_below K3.out HX1.out) 0 _ rfl) 1 _ rfl) Tryd.underlying40 rfl (by kernel_rfl) (.tmp .nil))) rfl ?_
    exact HP.out _ _ (two_below HB3.out HX1.out (by omega) _ _) (.inr ⟨HV.out, rfl⟩)
  | true =>
    cases mb with
    | false =>
      have HV := hid (show okF L al sa bl sb = false from by unfold okF; rw [HMA0.out, HMB0.out]; rfl)
      go_enter Tryd.func16, Tryd.ntmps16
      go_upto_region 1 with fail
      rw [show ((w.alloc (.cells #[.slice A1 n1 c1, .slice A2 n2 c2] 40)).alloc (.cells #[.slice B1 m1 d1, .slice B2 m2 d2] 40)).alloc (.cells #[.slice none 0 0, .slice none 0 0] 40) = w3 from HW3.out]
      have x0 := blk_cell K1.out 0
      have x1 := blk_cell K1.out 1
      have y0 := blk_cell K2.out 0
      have y1 := blk_cell K2.out 1
      go_wp2_with (go_at_call 53; refine (HM.out _ _ _ _ _ _ _ _ (by first | exact HX1.out | exact HX0.out) (by first | exact .inl ⟨rfl, rfl, rfl, rfl, rfl, rfl, rfl⟩ | exact .inr ⟨rfl, rfl, rfl, rfl, rfl, rfl, rfl⟩)).mono ?_; rintro e w5 ⟨rfl, hB⟩; have HX1 := hid (bel_tr (a := w3) (by first | exact HX1.out | exact HX0.out) hB); clear hB; have u0 := blk_cell (blk_below K1.out HX1.out) 0; have u1 := blk_cell (blk_below K1.out HX1.out) 1; have v0 := blk_cell (blk_below K2.out HX1.out) 0; have v1 := blk_cell (blk_below K2.out HX1.out) 1; have r0 := blk_cell (blk_below K3.out HX1.out) 0; have r1 := blk_cell (blk_below K3.out HX1.out) 1; have f0 := blk_frozen (blk_below K3.out HX1.out) 0; have f1 := blk_frozen (blk_below K3.out HX1.out) 1)
      refine bodyPost_ret (results_list (rs := [.cell 6 40, .tmp 7]) rfl (by simp) (.cell (w.heap.size + 1 + 1) 40 #[.slice none 0 0, .slice none 0 0] (0, 0) _ rfl (blk_put (blk_put (blk_below K3.out HX1.out) 0 _ rfl) 1 _ rfl) Tryd.underlying40 rfl (by kernel_rfl) (.tmp .nil))) rfl ?_
      exact HP.out _ _ (two_below HB3.out HX1.out (by omega) _ _) (.inr ⟨HV.out, rfl⟩)
    | true =>
      obtain ⟨la, lb⟩ := mayFrame_len HMA0.out
      by_cases e1 : n1 = m1
      · have E1 := hid e1
        subst e1
        have q1 : ((n1 : Int) != n1) = false := by simp
        by_cases e2 : n2 = m2
        · have E2 := hid e2
          subst e2
          have q2 : ((n2 : Int) != n2) = false := by simp
          rw [HN1.out] at la
          rw [HN2.out] at lb
          obtain ⟨kn, hkn⟩ : ∃ x, knownW (listsW L sa sb) = x := ⟨_, rfl⟩
          have HKN := hid hkn
          have HV := hid (show okF L al sa bl sb = kn from by unfold okF; rw [HMA0.out, HMB0.out, HN1.out, HN2.out, HN3.out, HN4.out, hkn]; simp)
          clear hkn
          have HLL := hid (fun (W : World) (hW : Below w3.heap.size w3 W) => wlists_any (HS.out.step hW) (HOW.out W hW) A1 B1 c1 d1 n1 al bl (Kd.C_below H1.out hW) (Kd.C_below H3.out hW) la S1.out S3.out)
          have HLS := hid (fun (W : World) (hW : Below w3.heap.size w3 W) => wlists_any (HS.out.step hW) (HOW.out W hW) A2 B2 c2 d2 n2 sa sb (Kd.C_below H2.out hW) (Kd.C_below H4.out hW) lb S2.out S4.out)
          go_enter Tryd.func16, Tryd.ntmps16
          go_upto_region 1 with fail
          rw [show ((w.alloc (.cells #[.slice A1 n1 c1, .slice A2 n2 c2] 40)).alloc (.cells #[.slice B1 n1 d1, .slice B2 n2 d2] 40)).alloc (.cells #[.slice none 0 0, .slice none 0 0] 40) = w3 from HW3.out]
          have x0 := blk_cell K1.out 0
          have x1 := blk_cell K1.out 1
          have y0 := blk_cell K2.out 0
          have y1 := blk_cell K2.out 1
          go_upto_region 3 with (go_at_call 53; refine (HM.out _ _ _ _ _ _ _ _ (by first | exact HX1.out | exact HX0.out) (by first | exact .inl ⟨rfl, rfl, rfl, rfl, rfl, rfl, rfl⟩ | exact .inr ⟨rfl, rfl, rfl, rfl, rfl, rfl, rfl⟩)).mono ?_; rintro e w5 ⟨rfl, hB⟩; have HX1 := hid (bel_tr (a := w3) (by first | exact HX1.out | exact HX0.out) hB); clear hB; have u0 := blk_cell (blk_below K1.out HX1.out) 0; have u1 := blk_cell (blk_below K1.out HX1.out) 1; have v0 := blk_cell (blk_below K2.out HX1.out) 0; have v1 := blk_cell (blk_below K2.out HX1.out) 1; have r0 := blk_cell (blk_below K3.out HX1.out) 0; have r1 := blk_cell (blk_below K3.out HX1.out) 1; have f0 := blk_frozen (blk_below K3.out HX1.out) 0; have f1 := blk_frozen (blk_below K3.out HX1.out) 1)
          have HKP := hid (fun w' (hb : Below w5.heap.size w5 w') => (⟨hb, (hb.cell (World.block_lt_of_cell? w5 _ u0)).trans u0, (hb.cell (World.block_lt_of_cell? w5 _ u1)).trans u1, (hb.cell (World.block_lt_of_cell? w5 _ v0)).trans v0, (hb.cell (World.block_lt_of_cell? w5 _ v1)).trans v1⟩ : Below w5.heap.size w5 w' ∧ w'.cell? ⟨w.heap.size, 0, none⟩ = some (.slice A1 n1 c1) ∧ w'.cell? ⟨w.heap.size, 1, none⟩ = some (.slice A2 n2 c2) ∧ w'.cell? ⟨w.heap.size + 1, 0, none⟩ = some (.slice B1 n1 d1) ∧ w'.cell? ⟨w.heap.size + 1, 1, none⟩ = some (.slice B2 n2 d2)))
          clear u0 u1 v0 v1 r0 r1 f0 f1 x0 x1 y0 y1
          have HBY := hid (Below.refl w5.heap.size w5)
          go_region_held3 (fun w' => Below w5.heap.size w5 w' ∧ w'.cell? ⟨w.heap.size, 0, none⟩ = some (.slice A1 n1 c1) ∧ w'.cell? ⟨w.heap.size, 1, none⟩ = some (.slice A2 n2 c2) ∧ w'.cell? ⟨w.heap.size + 1, 0, none⟩ = some (.slice B1 n1 d1) ∧ w'.cell? ⟨w.heap.size + 1, 1, none⟩ = some (.slice B2 n2 d2))
            (first | exact HKP.out _ (below_drew (Below.refl _ _)) | exact HKP.out _ (below_drew (below_alloc HBY.out _)) | exact HKP.out _ (by assumption) | exact HKP.out _ (below_alloc (by first | assumption | exact And.left (by assumption) | exact below_drew HBY.out) _) | exact HKP.out _ (Below.setCell (Below.setCell (And.left (by assumption)) (by first | exact Nat.le_refl _ | assumption | (simp; done) | (simp; omega)) _) (by first | exact Nat.le_refl _ | assumption | (simp; done) | (simp; omega)) _))
            (first | (go_at_call 54; (with_reducible refine (HLL.out _ (bel_tr (a := w3) HX1.out (by first | exact below_drew HBY.out | exact And.left (by assumption) | assumption))).mono ?_); rintro e wL ⟨AL, cL, rfl, hC, hBL⟩; have hXL := bel_tr (a := w5) (by first | exact below_drew HBY.out | exact And.left (by assumption) | assumption) hBL; have hZL := hXL.size; have hCL := hid hC; clear hC; (first | (have hn := blk_below hn hBL; have o0 := blk_cell hn 0; have o1 := blk_cell hn 1; have g0 := blk_frozen hn 0; have g1 := blk_frozen hn 1) | (have hn := blk_below (blk_new _ _) hBL; have o0 := blk_cell hn 0; have o1 := blk_cell hn 1; have g0 := blk_frozen hn 0; have g1 := blk_frozen hn 1) | (have hn := blk_below (blk_drew (blk_new _ _)) hBL; have o0 := blk_cell hn 0; have o1 := blk_cell hn 1; have g0 := blk_frozen hn 0; have g1 := blk_frozen hn 1) | skip)) | (go_at_call 54; (with_reducible refine (HLS.out _ (bel_tr (a := w3) HX1.out (by first | exact below_drew HBY.out | exact And.left (by assumption) | assumption))).mono ?_); rintro e wS ⟨AS, cS, rfl, hC, hBS⟩; have hXS := bel_tr (a := w5) (by first | exact below_drew HBY.out | exact And.left (by assumption) | assumption) hBS; have hZS := hXS.size; have hCS := hid hC; clear hC; (first | (have hn := blk_below hn hBS; have o0 := blk_cell hn 0; have o1 := blk_cell hn 1; have g0 := blk_frozen hn 0; have g1 := blk_frozen hn 1) | (have hn := blk_below (blk_new _ _) hBS; have o0 := blk_cell hn 0; have o1 := blk_cell hn 1; have g0 := blk_frozen hn 0; have g1 := blk_frozen hn 1) | (have hn := blk_below (blk_drew (blk_new _ _)) hBS; have o0 := blk_cell hn 0; have o1 := blk_cell hn 1; have g0 := blk_frozen hn 0; have g1 := blk_frozen hn 1) | skip)))
          have hk6 : w.heap.size + 1 + 1 < w5.heap.size := Nat.lt_of_lt_of_le (blk_lt K3.out) HX1.out.size
          have hw5 : w.heap.size ≤ w5.heap.size := by omega
          · have HF := hid (blk_new wS (.cells #[.slice AL n1 cL, .slice AS n2 cS] 40))
            have HB8 := hid (show Below w5.heap.size w5 (wS.alloc (.cells #[.slice AL n1 cL, .slice AS n2 cS] 40)) from below_alloc hXS _)
            have HRL := hid (show LRow w5.heap.size AL n1 (listsW L al bl) (wS.alloc (.cells #[.slice AL n1 cL, .slice AS n2 cS] 40)) from (hCL.out.step hBS).step (below_alloc (Below.refl _ _) _))
            have HRS := hid (show LRow w5.heap.size AS n2 (listsW L sa sb) (wS.alloc (.cells #[.slice AL n1 cL, .slice AS n2 cS] 40)) from (hCS.out.lower hZL).step (below_alloc (Below.refl _ _) _))
            skip
            rename_i hHeld
            clear hHeld
            generalize wS.alloc (.cells #[.slice AL n1 cL, .slice AS n2 cS] 40) = w8 at *
            clear hBS hXS hXL hZS hZL hCS hCL hBL
            have t0 := blk_cell HF.out 0
            have t1 := blk_cell HF.out 1
            have HKN8 := hid (show Calls Tryd.prog 55 #[.slice AS n2 cS] w8 fun e w' => e = .returned (.bool kn) ∧ Below w8.heap.size w8 w' from by
              have := known_any AS cS n2 (listsW L sa sb) w8 (HRS.out.C (by omega)) b2
              rw [HKN.out] at this
              exact this)
            cases kn with
            | false =>
              go_wp2_with (go_at_call 55; refine HKN8.out.mono ?_; rintro e w9 ⟨rfl, hB⟩; have HB9 := hid hB; have HX9 := hid (bel_tr (a := w3) (below_weaken HX1.out HX1.out.size HB8.out) hB); clear hB; have r0 := blk_cell (blk_below K3.out HX9.out) 0; have r1 := blk_cell (blk_below K3.out HX9.out) 1; have f0 := blk_frozen (blk_below K3.out HX9.out) 0; have f1 := blk_frozen (blk_below K3.out HX9.out) 1; have t0 := blk_cell (blk_below HF.out HB9.out) 0; have t1 := blk_cell (blk_below HF.out HB9.out) 1)
              refine bodyPost_ret (results_list (rs := [.cell 6 40, .tmp 7]) rfl (by simp) (.cell (w.heap.size + 1 + 1) 40 #[.slice none 0 0, .slice none 0 0] (0, 0) _ rfl (blk_put (blk_put (blk_below K3.out HX9.out) 0 _ rfl) 1 _ rfl) Tryd.underlying40 rfl (by kernel_rfl) (.tmp .nil))) rfl ?_
              exact HP.out _ _ (two_below HB3.out HX9.out (by omega) _ _) (.inr ⟨HV.out, rfl⟩)
            | true =>
              go_wp2_with (go_at_call 55; refine HKN8.out.mono ?_; rintro e w9 ⟨rfl, hB⟩; have HB9 := hid hB; have HX9 := hid (bel_tr (a := w3) (below_weaken HX1.out HX1.out.size HB8.out) hB); clear hB; have r0 := blk_cell (blk_below K3.out HX9.out) 0; have r1 := blk_cell (blk_below K3.out HX9.out) 1; have f0 := blk_frozen (blk_below K3.out HX9.out) 0; have f1 := blk_frozen (blk_below K3.out HX9.out) 1; have t0 := blk_cell (blk_below HF.out HB9.out) 0; have t1 := blk_cell (blk_below HF.out HB9.out) 1)
              refine bodyPost_ret (results_list (rs := [.cell 6 40, .tmp 7]) rfl (by simp) (.cell (w.heap.size + 1 + 1) 40 #[.slice AL n1 cL, .slice AS n2 cS] (0, 0) _ rfl (blk_put (blk_put (blk_below K3.out HX9.out) 0 _ rfl) 1 _ rfl) Tryd.underlying40 rfl (by kernel_rfl) (.tmp .nil))) rfl ?_
              refine HP.out _ _ (two_below HB3.out HX9.out (by omega) _ _) (.inl ⟨HV.out, AL, cL, AS, cS, by rw [HN1.out, HN2.out]; rfl, ?_, ?_⟩)
              · rw [HN1.out]; exact ((HRL.out.step HB9.out).put2 (Nat.lt_of_lt_of_le (blk_lt K3.out) HX1.out.size) _ _).lower (Nat.le_of_lt (Nat.lt_of_le_of_lt (Nat.le_add_right _ _) (Nat.lt_of_lt_of_le (blk_lt K3.out) HX1.out.size)))
              · rw [HN2.out]; exact ((HRS.out.step HB9.out).put2 (Nat.lt_of_lt_of_le (blk_lt K3.out) HX1.out.size) _ _).lower (Nat.le_of_lt (Nat.lt_of_le_of_lt (Nat.le_add_right _ _) (Nat.lt_of_lt_of_le (blk_lt K3.out) HX1.out.size)))
          · have HF := hid (blk_put (blk_put hn 0 (.slice AL n1 cL) rfl) 1 (.slice AS n2 cS) rfl)
            have HB8 := hid (show Below w5.heap.size w5 ((wS.setCell ⟨wL.heap.size, 0, none⟩ (.slice AL n1 cL)).setCell ⟨wL.heap.size, 1, none⟩ (.slice AS n2 cS)) from (hXS.setCell hZL _).setCell hZL _)
            have HRL := hid (show LRow w5.heap.size AL n1 (listsW L al bl) ((wS.setCell ⟨wL.heap.size, 0, none⟩ (.slice AL n1 cL)).setCell ⟨wL.heap.size, 1, none⟩ (.slice AS n2 cS)) from hCL.out.step (((bel_tr (a := wL) (below_alloc (Below.refl _ _) _) hBS).setCell (Nat.le_refl _) _).setCell (Nat.le_refl _) _))
            have HRS := hid (show LRow w5.heap.size AS n2 (listsW L sa sb) ((wS.setCell ⟨wL.heap.size, 0, none⟩ (.slice AL n1 cL)).setCell ⟨wL.heap.size, 1, none⟩ (.slice AS n2 cS)) from (hCS.out.put2 (by simp) _ _).lower (by simp; omega))
            clear hn o0 o1 g0 g1
            rename_i hHeld
            clear hHeld
            generalize (wS.setCell ⟨wL.heap.size, 0, none⟩ (.slice AL n1 cL)).setCell ⟨wL.heap.size, 1, none⟩ (.slice AS n2 cS) = w8 at *
            clear hBS hXS hXL hZS hZL hCS hCL hBL
            have t0 := blk_cell HF.out 0
            have t1 := blk_cell HF.out 1
            have HKN8 := hid (show Calls Tryd.prog 55 #[.slice AS n2 cS] w8 fun e w' => e = .returned (.bool kn) ∧ Below w8.heap.size w8 w' from by
              have := known_any AS cS n2 (listsW L sa sb) w8 (HRS.out.C (by omega)) b2
              rw [HKN.out] at this
              exact this)
            cases kn with
            | false =>
              go_wp2_with (go_at_call 55; refine HKN8.out.mono ?_; rintro e w9 ⟨rfl, hB⟩; have HB9 := hid hB; have HX9 := hid (bel_tr (a := w3) (below_weaken HX1.out HX1.out.size HB8.out) hB); clear hB; have r0 := blk_cell (blk_below K3.out HX9.out) 0; have r1 := blk_cell (blk_below K3.out HX9.out) 1; have f0 := blk_frozen (blk_below K3.out HX9.out) 0; have f1 := blk_frozen (blk_below K3.out HX9.out) 1; have t0 := blk_cell (blk_below HF.out HB9.out) 0; have t1 := blk_cell (blk_below HF.out HB9.out) 1)
              refine bodyPost_ret (results_list (rs := [.cell 6 40, .tmp 7]) rfl (by simp) (.cell (w.heap.size + 1 + 1) 40 #[.slice none 0 0, .slice none 0 0] (0, 0) _ rfl (blk_put (blk_put (blk_below K3.out HX9.out) 0 _ rfl) 1 _ rfl) Tryd.underlying40 rfl (by kernel_rfl) (.tmp .nil))) rfl ?_
              exact HP.out _ _ (two_below HB3.out HX9.out (by omega) _ _) (.inr ⟨HV.out, rfl⟩)
            | true =>
              go_wp2_with (go_at_call 55; refine HKN8.out.mono ?_; rintro e w9 ⟨rfl, hB⟩; have HB9 := hid hB; have HX9 := hid (bel_tr (a := w3) (below_weaken HX1.out HX1.out.size HB8.out) hB); clear hB; have r0 := blk_cell (blk_below K3.out HX9.out) 0; have r1 := blk_cell (blk_below K3.out HX9.out) 1; have f0 := blk_frozen (blk_below K3.out HX9.out) 0; have f1 := blk_frozen (blk_below K3.out HX9.out) 1; have t0 := blk_cell (blk_below HF.out HB9.out) 0; have t1 := blk_cell (blk_below HF.out HB9.out) 1)
              refine bodyPost_ret (results_list (rs := [.cell 6 40, .tmp 7]) rfl (by simp) (.cell (w.heap.size + 1 + 1) 40 #[.slice AL n1 cL, .slice AS n2 cS] (0, 0) _ rfl (blk_put (blk_put (blk_below K3.out HX9.out) 0 _ rfl) 1 _ rfl) Tryd.underlying40 rfl (by kernel_rfl) (.tmp .nil))) rfl ?_
              refine HP.out _ _ (two_below HB3.out HX9.out (by omega) _ _) (.inl ⟨HV.out, AL, cL, AS, cS, by rw [HN1.out, HN2.out]; rfl, ?_, ?_⟩)
              · rw [HN1.out]; exact ((HRL.out.step HB9.out).put2 (Nat.lt_of_lt_of_le (blk_lt K3.out) HX1.out.size) _ _).lower (Nat.le_of_lt (Nat.lt_of_le_of_lt (Nat.le_add_right _ _) (Nat.lt_of_lt_of_le (blk_lt K3.out) HX1.out.size)))
              · rw [HN2.out]; exact ((HRS.out.step HB9.out).put2 (Nat.lt_of_lt_of_le (blk_lt K3.out) HX1.out.size) _ _).lower (Nat.le_of_lt (Nat.lt_of_le_of_lt (Nat.le_add_right _ _) (Nat.lt_of_lt_of_le (blk_lt K3.out) HX1.out.size)))
          · have HF := hid (blk_put (blk_put hn 0 (.slice AL n1 cL) rfl) 1 (.slice AS n2 cS) rfl)
            have HB8 := hid (show Below w5.heap.size w5 ((wS.setCell ⟨w5.heap.size, 0, none⟩ (.slice AL n1 cL)).setCell ⟨w5.heap.size, 1, none⟩ (.slice AS n2 cS)) from (hXS.setCell (Nat.le_refl _) _).setCell (Nat.le_refl _) _)
            have HRL := hid (show LRow w5.heap.size AL n1 (listsW L al bl) ((wS.setCell ⟨w5.heap.size, 0, none⟩ (.slice AL n1 cL)).setCell ⟨w5.heap.size, 1, none⟩ (.slice AS n2 cS)) from ((hCL.out.step hBS).put2 (by simp) _ _).lower (by simp))
            have HRS := hid (show LRow w5.heap.size AS n2 (listsW L sa sb) ((wS.setCell ⟨w5.heap.size, 0, none⟩ (.slice AL n1 cL)).setCell ⟨w5.heap.size, 1, none⟩ (.slice AS n2 cS)) from (hCS.out.put2 (Nat.lt_of_lt_of_le (by simp) hBL.size)  _ _).lower hZL)
            clear hn o0 o1 g0 g1
            rename_i hHeld
            clear hHeld
            generalize (wS.setCell ⟨w5.heap.size, 0, none⟩ (.slice AL n1 cL)).setCell ⟨w5.heap.size, 1, none⟩ (.slice AS n2 cS) = w8 at *
            clear hBS hXS hXL hZS hZL hCS hCL hBL
            have t0 := blk_cell HF.out 0
            have t1 := blk_cell HF.out 1
            have HKN8 := hid (show Calls Tryd.prog 55 #[.slice AS n2 cS] w8 fun e w' => e = .returned (.bool kn) ∧ Below w8.heap.size w8 w' from by
              have := known_any AS cS n2 (listsW L sa sb) w8 (HRS.out.C (by omega)) b2
              rw [HKN.out] at this
              exact this)
            cases kn with
            | false =>
              go_wp2_with (go_at_call 55; refine HKN8.out.mono ?_; rintro e w9 ⟨rfl, hB⟩; have HB9 := hid hB; have HX9 := hid (bel_tr (a := w3) (below_weaken HX1.out HX1.out.size HB8.out) hB); clear hB; have r0 := blk_cell (blk_below K3.out HX9.out) 0; have r1 := blk_cell (blk_below K3.out HX9.out) 1; have f0 := blk_frozen (blk_below K3.out HX9.out) 0; have f1 := blk_frozen (blk_below K3.out HX9.out) 1; have t0 := blk_cell (blk_below HF.out HB9.out) 0; have t1 := blk_cell (blk_below HF.out HB9.out) 1)
              refine bodyPost_ret (results_list (rs := [.cell 6 40, .tmp 7]) rfl (by simp) (.cell (w.heap.size + 1 + 1) 40 #[.slice none 0 0, .slice none 0 0] (0, 0) _ rfl (blk_put (blk_put (blk_below K3.out HX9.out) 0 _ rfl) 1 _ rfl) Tryd.underlying40 rfl (by kernel_rfl) (.tmp .nil))) rfl ?_
              exact HP.out _ _ (two_below HB3.out HX9.out (by omega) _ _) (.inr ⟨HV.out, rfl⟩)
            | true =>
              go_wp2_with (go_at_call 55; refine HKN8.out.mono ?_; rintro e w9 ⟨rfl, hB⟩; have HB9 := hid hB; have HX9 := hid (bel_tr (a := w3) (below_weaken HX1.out HX1.out.size HB8.out) hB); clear hB; have r0 := blk_cell (blk_below K3.out HX9.out) 0; have r1 := blk_cell (blk_below K3.out HX9.out) 1; have f0 := blk_frozen (blk_below K3.out HX9.out) 0; have f1 := blk_frozen (blk_below K3.out HX9.out) 1; have t0 := blk_cell (blk_below HF.out HB9.out) 0; have t1 := blk_cell (blk_below HF.out HB9.out) 1)
              refine bodyPost_ret (results_list (rs := [.cell 6 40, .tmp 7]) rfl (by simp) (.cell (w.heap.size + 1 + 1) 40 #[.slice AL n1 cL, .slice AS n2 cS] (0, 0) _ rfl (blk_put (blk_put (blk_below K3.out HX9.out) 0 _ rfl) 1 _ rfl) Tryd.underlying40 rfl (by kernel_rfl) (.tmp .nil))) rfl ?_
              refine HP.out _ _ (two_below HB3.out HX9.out (by omega) _ _) (.inl ⟨HV.out, AL, cL, AS, cS, by rw [HN1.out, HN2.out]; rfl, ?_, ?_⟩)
              · rw [HN1.out]; exact ((HRL.out.step HB9.out).put2 (Nat.lt_of_lt_of_le (blk_lt K3.out) HX1.out.size) _ _).lower (Nat.le_of_lt (Nat.lt_of_le_of_lt (Nat.le_add_right _ _) (Nat.lt_of_lt_of_le (blk_lt K3.out) HX1.out.size)))
              · rw [HN2.out]; exact ((HRS.out.step HB9.out).put2 (Nat.lt_of_lt_of_le (blk_lt K3.out) HX1.out.size) _ _).lower (Nat.le_of_lt (Nat.lt_of_le_of_lt (Nat.le_add_right _ _) (Nat.lt_of_lt_of_le (blk_lt K3.out) HX1.out.size)))
        · have HV := hid (show okF L al sa bl sb = false from by unfold okF; rw [HMA0.out, HMB0.out, HN1.out, HN2.out, HN3.out, HN4.out, decide_eq_false e2]; simp)
          have q2 : ((n2 : Int) != m2) = true := by simp; omega
          clear e2
          go_enter Tryd.func16, Tryd.ntmps16
          go_upto_region 1 with fail
          rw [show ((w.alloc (.cells #[.slice A1 n1 c1, .slice A2 n2 c2] 40)).alloc (.cells #[.slice B1 n1 d1, .slice B2 m2 d2] 40)).alloc (.cells #[.slice none 0 0, .slice none 0 0] 40) = w3 from HW3.out]
          have x0 := blk_cell K1.out 0
          have x1 := blk_cell K1.out 1
          have y0 := blk_cell K2.out 0
          have y1 := blk_cell K2.out 1
          go_wp2_with (go_at_call 53; refine (HM.out _ _ _ _ _ _ _ _ (by first | exact HX1.out | exact HX0.out) (by first | exact .inl ⟨rfl, rfl, rfl, rfl, rfl, rfl, rfl⟩ | exact .inr ⟨rfl, rfl, rfl, rfl, rfl, rfl, rfl⟩)).mono ?_; rintro e w5 ⟨rfl, hB⟩; have HX1 := hid (bel_tr (a := w3) (by first | exact HX1.out | exact HX0.out) hB); clear hB; have u0 := blk_cell (blk_below K1.out HX1.out) 0; have u1 := blk_cell (blk_below K1.out HX1.out) 1; have v0 := blk_cell (blk_below K2.out HX1.out) 0; have v1 := blk_cell (blk_below K2.out HX1.out) 1; have r0 := blk_cell (blk_below K3.out HX1.out) 0; have r1 := blk_cell (blk_below K3.out HX1.out) 1; have f0 := blk_frozen (blk_below K3.out HX1.out) 0; have f1 := blk_frozen (blk_below K3.out HX1.out) 1)
          refine bodyPost_ret (results_list (rs := [.cell 6 40, .tmp 7]) rfl (by simp) (.cell (w.heap.size + 1 + 1) 40 #[.slice none 0 0, .slice none 0 0] (0, 0) _ rfl (blk_put (blk_put (blk_below K3.out HX1.out) 0 _ rfl) 1 _ rfl) Tryd.underlying40 rfl (by kernel_rfl) (.tmp .nil))) rfl ?_
          exact HP.out _ _ (two_below HB3.out HX1.out (by omega) _ _) (.inr ⟨HV.out, rfl⟩)
      · have HV := hid (show okF L al sa bl sb = false from by unfold okF; rw [HMA0.out, HMB0.out, HN1.out, HN3.out, decide_eq_false e1]; simp)
        have q1 : ((n1 : Int) != m1) = true := by simp; omega
        clear e1
        go_enter Tryd.func16, Tryd.ntmps16
        go_upto_region 1 with fail
        rw [show ((w.alloc (.cells #[.slice A1 n1 c1, .slice A2 n2 c2] 40)).alloc (.cells #[.slice B1 m1 d1, .slice B2 m2 d2] 40)).alloc (.cells #[.slice none 0 0, .slice none 0 0] 40) = w3 from HW3.out]
        have x0 := blk_cell K1.out 0
        have x1 := blk_cell K1.out 1
        have y0 := blk_cell K2.out 0
        have y1 := blk_cell K2.out 1
        go_wp2_with (go_at_call 53; refine (HM.out _ _ _ _ _ _ _ _ (by first | exact HX1.out | exact HX0.out) (by first | exact .inl ⟨rfl, rfl, rfl, rfl, rfl, rfl, rfl⟩ | exact .inr ⟨rfl, rfl, rfl, rfl, rfl, rfl, rfl⟩)).mono ?_; rintro e w5 ⟨rfl, hB⟩; have HX1 := hid (bel_tr (a := w3) (by first | exact HX1.out | exact HX0.out) hB); clear hB; have u0 := blk_cell (blk_below K1.out HX1.out) 0; have u1 := blk_cell (blk_below K1.out HX1.out) 1; have v0 := blk_cell (blk_below K2.out HX1.out) 0; have v1 := blk_cell (blk_below K2.out HX1.out) 1; have r0 := blk_cell (blk_below K3.out HX1.out) 0; have r1 := blk_cell (blk_below K3.out HX1.out) 1; have f0 := blk_frozen (blk_below K3.out HX1.out) 0; have f1 := blk_frozen (blk_below K3.out HX1.out) 1)
        refine bodyPost_ret (results_list (rs := [.cell 6 40, .tmp 7]) rfl (by simp) (.cell (w.heap.size + 1 + 1) 40 #[.slice none 0 0, .slice none 0 0] (0, 0) _ rfl (blk_put (blk_put (blk_below K3.out HX1.out) 0 _ rfl) 1 _ rfl) Tryd.underlying40 rfl (by kernel_rfl) (.tmp .nil))) rfl ?_
        exact HP.out _ _ (two_below HB3.out HX1.out (by omega) _ _) (.inr ⟨HV.out, rfl⟩)
end Go.Proofs.YtbogcknkkbnfnaaDoor


/- Blocks: ways, each once: slices.Compact at pairs. -/
import Derived.Test.YthjjkpkohhmgcaaVy
import Derived.Lib.SlicesCompact
import Derived.Lib.SliceRun
import Derived.BigRegion
namespace Go.Proofs.Ythjjkpkohhmgcaa
open Go.RowKit Go.Proofs.YthjjkpkohhmgcaaW.PrintWords

/-- Block g holds d. -/
structure H2 (g : Nat) (d : Array (Int × Int)) (w : World) : Prop where
  a : ∀ i, i < d.size → w.cell? ⟨g, i * 2, none⟩ = some (.int .i64 (d[i]!).1)
  b : ∀ i, i < d.size → w.cell? ⟨g, i * 2 + 1, none⟩ = some (.int .i64 (d[i]!).2)
  blk : ∃ cs, w.heap[g]? = some (.cells cs 36 (0, 0))
theorem H2.fr {g : Nat} {d : Array (Int × Int)} {w : World} (h : H2 g d w) (i : Nat) : w.frozen? ⟨g, i, none⟩ = false := by
  obtain ⟨cs, hc⟩ := h.blk
  exact blk_frozen hc i
theorem H2.lt {g : Nat} {d : Array (Int × Int)} {w : World} (h : H2 g d w) : g < w.heap.size := by
  obtain ⟨cs, hc⟩ := h.blk
  exact blk_lt hc
theorem adr_ne {g i j : Nat} (h : i ≠ j) : (⟨g, i, none⟩ : Addr) ≠ ⟨g, j, none⟩ := fun e => h (by injection e)
theorem cell_other {g i j : Nat} (w : World) (v : Value) (h : i ≠ j) : (w.setCell ⟨g, i, none⟩ v).cell? ⟨g, j, none⟩ = w.cell? ⟨g, j, none⟩ := by
  first | exact World.cell?_setCell_other (adr_ne h) | exact World.cell?_setCell_other _ (adr_ne h) | exact World.cell?_setCell_other _ _ (adr_ne h) | exact World.cell?_setCell_other _ _ _ (adr_ne h) | exact World.cell?_setCell_other _ _ _ _ (adr_ne h)
def put2 (w : World) (g i : Nat) (q : Int × Int) : World := (w.setCell ⟨g, i * 2, none⟩ (.int .i64 q.1)).setCell ⟨g, i * 2 + 1, none⟩ (.int .i64 q.2)
theorem H2.put {g : Nat} {d : Array (Int × Int)} {w : World} (h : H2 g d w) (i : Nat) (hi : i < d.size) (q : Int × Int) : H2 g (d.setIfInBounds i q) (put2 w g i q) := by
  have key : ∀ j, (d.setIfInBounds i q)[j]! = if j = i then q else d[j]! := by
    intro j
    by_cases e : j = i
    · subst e; simp [hi]
    · rw [if_neg e, Array.getElem!_eq_getD, Array.getElem!_eq_getD, Array.getD_eq_getD_getElem?, Array.getD_eq_getD_getElem?, Array.getElem?_setIfInBounds_ne (Ne.symm e)]
  refine ⟨fun j hj => ?_, fun j hj => ?_, ?_⟩
  · rw [Array.size_setIfInBounds] at hj
    unfold put2
    rw [cell_other _ _ (by omega), key]
    by_cases e : j = i
    · subst e
      rw [if_pos rfl, World.cell?_setCell_same' _ _ _ (by rw [h.a j hj]; rfl)]
    · rw [if_neg e, cell_other _ _ (by omega)]
      exact h.a j hj
  · rw [Array.size_setIfInBounds] at hj
    unfold put2
    rw [key]
    by_cases e : j = i
    · subst e
      rw [if_pos rfl]
      exact World.cell?_setCell_same' _ _ _ (by rw [cell_other _ _ (by omega), h.b j hj]; rfl)
    · rw [if_neg e, cell_other _ _ (by omega), cell_other _ _ (by omega)]
      exact h.b j hj
  · obtain ⟨cs, hc⟩ := h.blk
    exact ⟨_, blk_set (blk_set hc _ _) _ _⟩
/-- Only block g has changed, and what is new; g holds d. -/
structure SW2 (g : Nat) (w0 : World) (d : Array (Int × Int)) (W : World) : Prop where
  below : Below g w0 W
  size : w0.heap.size ≤ W.heap.size
  block : ∀ i, i < w0.heap.size → i ≠ g → W.heap[i]? = w0.heap[i]?
  row : H2 g d W
section
variable {g : Nat} {w0 W : World} {d : Array (Int × Int)}
theorem SW2.start (h : H2 g d w0) : SW2 g w0 d w0 := ⟨Below.refl _ _, Nat.le_refl _, fun _ _ _ => rfl, h⟩
theorem SW2.drewN (h : SW2 g w0 d W) (n : Nat) : SW2 g w0 d (W.drewN n) := ⟨h.below.trans ⟨rfl, rfl, rfl, Nat.le_refl _, fun _ _ => rfl⟩, h.size, h.block, ⟨h.row.a, h.row.b, h.row.blk⟩⟩
theorem SW2.put (h : SW2 g w0 d W) (i : Nat) (hi : i < d.size) (q : Int × Int) : SW2 g w0 (d.setIfInBounds i q) (put2 W g i q) := by
  refine ⟨(h.below.setCell (Nat.le_refl g) _).setCell (Nat.le_refl g) _, by unfold put2; simpa using h.size, fun k hk hg => ?_, h.row.put i hi q⟩
  unfold put2
  rw [Below.heap_setCell _ ⟨g, _, none⟩ _ k hg, Below.heap_setCell _ ⟨g, _, none⟩ _ k hg]
  exact h.block k hk hg
end
theorem run_clear2 (w : World) (ty : TypeId) (g o n c : Nat) (hn : 0 < n) (hc : ∀ j, j < n * 2 → (w.cell? ⟨g, o + j, none⟩).isSome = true) (hf : ∀ j, w.frozen? ⟨g, j, none⟩ = false) :
    (Builtin.clear_ #[32] ty #[.slice (some ⟨g, o, none⟩) n c]).run Try.prog w = .ok (.tuple #[]) (w.setCells g o (List.replicate (n * 2) (.int .i64 0))) := by
  have hzc : (Builtin.zeroCells (Value.agg #[.int .i64 0, .int .i64 0]).cells n).toList = List.replicate (n * 2) (.int .i64 0) := by
    rw [show (Value.agg #[.int .i64 0, .int .i64 0]).cells = #[.int .i64 0, .int .i64 0] from rfl]
    simp [Builtin.zeroCells]
    apply List.ext_getElem
    · simp
    · intro i h1 h2
      simp only [List.getElem_map, List.getElem_range, List.getElem_replicate]
      rcases (by omega : i % 2 = 0 ∨ i % 2 = 1) with e | e <;> simp [e]
  have hst := run_storeCells_cells (P := Try.prog) g o (List.replicate (n * 2) (.int .i64 0)) 0 w (by simpa using hc) (by intro j hj; exact hf _) (by intro v hv'; rw [List.eq_of_mem_replicate hv']; rfl)
  simp only [Nat.add_zero] at hst
  obtain ⟨m, rfl⟩ : ∃ m, n = m + 1 := ⟨n - 1, by omega⟩
  have hv : (zeroValue 36).run Try.prog w = .ok (.agg #[.int .i64 0, .int .i64 0]) w := by kernel_rfl
  simp [Builtin.clear_, run_underlying Try.underlying32, hv, hzc, hst]
theorem SW2.clear {g : Nat} {w0 W : World} {d : Array (Int × Int)} (h : SW2 g w0 d W) (o : Nat) (vs : List Value) : Below g w0 (W.setCells g o vs) ∧ w0.heap.size ≤ (W.setCells g o vs).heap.size ∧ ∀ i, i < w0.heap.size → i ≠ g → (W.setCells g o vs).heap[i]? = w0.heap[i]? := by
  obtain ⟨s1, s2, s3, s4⟩ := setCells_same g vs o W
  refine ⟨h.below.trans ⟨s1, s2, s3, Nat.le_of_eq s4.symm, fun i hi => setCells_far vs o i (by omega)⟩, by rw [s4]; exact h.size, fun i hi hg => (setCells_far vs o i hg).trans (h.block i hi hg)⟩
/-- What Compact leaves. -/
structure Cmpd (g : Nat) (d : Array (Int × Int)) (w : World) (n : Nat) (w' : World) : Prop where
  len : (Lib.compactUpTo d d.size).length = n
  below : Below g w w'
  size : w.heap.size ≤ w'.heap.size
  block : ∀ i, i < w.heap.size → i ≠ g → w'.heap[i]? = w.heap[i]?
  cells : ∀ i (hi : i < (Lib.compactUpTo d d.size).length), w'.cell? ⟨g, i * 2, none⟩ = some (.int .i64 ((Lib.compactUpTo d d.size)[i]).1) ∧ w'.cell? ⟨g, i * 2 + 1, none⟩ = some (.int .i64 ((Lib.compactUpTo d d.size)[i]).2)
theorem Cmpd.all {g : Nat} {d : Array (Int × Int)} {w w' : World} (h : SW2 g w d w') (ha : ∀ j, j < d.size → Lib.keeps d j = true) : Cmpd g d w d.size w' := by
  have e : Lib.compactUpTo d d.size = d.toList := by rw [Lib.compactUpTo_all d _ ha, Lib.range_map_get]
  refine ⟨by rw [e]; simp, h.below, h.size, h.block, fun i hi => ?_⟩
  have hi' : i < d.size := by rw [e] at hi; simpa using hi
  have e2 : (Lib.compactUpTo d d.size)[i] = d[i]! := by
    have : (Lib.compactUpTo d d.size)[i]? = some d[i]! := by rw [e]; simp [hi']
    exact (List.getElem?_eq_some_iff.1 this).2
  rw [e2]
  exact ⟨h.row.a i hi', h.row.b i hi'⟩
theorem Cmpd.some_ {g : Nat} {d dk : Array (Int × Int)} {w W : World} {k : Nat} (h : SW2 g w dk W) (hI : Lib.CompInv d d.size k dk) (vs : List Value) : Cmpd g d w k (W.setCells g (k * 2) vs) := by
  obtain ⟨h1, h2, h3⟩ := h.clear (k * 2) vs
  refine ⟨hI.len, h1, h2, h3, fun i hi => ?_⟩
  have hik : i < k := by rw [hI.len] at hi; exact hi
  have e2 : (Lib.compactUpTo d d.size)[i] = dk[i]! := (List.getElem?_eq_some_iff.1 (hI.low i hik)).2
  have hs : i < dk.size := by have := hI.lt; have := hI.size; omega
  rw [e2, World.cell?_setCells_out g vs (k * 2) W ⟨g, i * 2, none⟩ (fun _ _ => .inl (by show i * 2 < k * 2; omega)), World.cell?_setCells_out g vs (k * 2) W ⟨g, i * 2 + 1, none⟩ (fun _ _ => .inl (by show i * 2 + 1 < k * 2; omega))]
  exact ⟨h.row.a i hs, h.row.b i hs⟩
set_option maxRecDepth 100000 in
set_option maxHeartbeats 8000000 in
theorem compact_any (g cap : Nat) (d : Array (Int × Int)) (w : World) (hW : H2 g d w) (hsz : d.size ≤ 1000000000) (hcap : d.size ≤ cap) :
    Calls Try.prog 42 #[.slice (some ⟨g, 0, none⟩) d.size cap] w fun e w' => ∃ n, e = .returned (.slice (some ⟨g, 0, none⟩) n cap) ∧ Cmpd g d w n w' := by
  have HS0 := hid (SW2.start hW)
  have qE := run_eql_way
  have qN := run_neq_way
  clear hW
  generalize hN : d.size = N at *
  have HN := hid hN
  clear hN
  by_cases h2 : N < 2
  · go_enter Try.func42, Try.ntmps42
    go_wp2_with fail
    go_ret
    exact ⟨N, rfl, by have := Cmpd.all HS0.out (fun j hj => Lib.keeps_lt_one d j (by rw [HN.out] at hj; omega)); rwa [HN.out] at this⟩
  · go_enter Try.func42, Try.ntmps42
    go_upto_region 4 with fail
    go_loopw [3] (fun s3 wr => ∃ k : Nat, 1 ≤ k ∧ k ≤ N ∧ s3 = .int .i64 k ∧ Hid (SW2 g w d wr) ∧ Hid (∀ j, j < k → Lib.keeps d j = true)) (fun s3 _ => N - (intOf s3).toNat)
    case atStart => exact ⟨1, by omega, by omega, rfl, HS0, Lib.keeps_lt_one d⟩
    obtain ⟨k, hk1, hk, rfl, HW, HA⟩ := hrel
    by_cases hlt : k < N
    · obtain ⟨j, rfl⟩ : ∃ j, k = j + 1 := ⟨k - 1, by omega⟩
      have c0 := HW.out.row.a (j + 1) (by rw [HN.out]; exact hlt)
      have c1 := HW.out.row.b (j + 1) (by rw [HN.out]; exact hlt)
      have e0 := HW.out.row.a j (by rw [HN.out]; omega)
      have e1 := HW.out.row.b j (by rw [HN.out]; omega)
      have p1 : ((j : Int) + 1).toNat = j + 1 := by omega
      have p0 : 0 ≤ (j : Int) + 1 := by omega
      have p4 : IntKind.i64.wrap (j : Int) = (j : Int) := IntWalk.i64_in _ (by omega)
      have p2 : (j : Int) < N := by omega
      have p3 : (j : Int) + 1 < N := by omega
      generalize hx : d[j + 1]! = x at *
      generalize hy : d[j]! = y at *
      obtain ⟨x1, x2⟩ := x
      obtain ⟨y1, y2⟩ := y
      have HX := hid hx
      have HY := hid hy
      clear hx hy
      by_cases he : (x1 == y1 && x2 == y2) = true
      · have HD := hid (show Lib.keeps d (j + 1) = false from Lib.keeps_neg (by omega) (by
          rw [show j + 1 - 1 = j by omega, HX.out, HY.out]
          simp only [Bool.and_eq_true, beq_iff_eq] at he
          rw [he.1, he.2]))
        have HI0 := hid (Lib.CompInv.start HA.out HD.out)
        clear HD HA HX HY
        go_wp2_with fail
        go_quiet (fail)
        have HW2 := hid (HW.out.drewN nq)
        generalize wr.drewN nq = wq at *
        clear c0 c1 e0 e1 HW
        have p5 : (j : Int) + 1 ≤ N := by omega
        have p6 : (j : Int) + 1 ≤ cap := by omega
        have p7 : (N : Int) ≤ cap := by omega
        go_upto_region 9 with fail
        go_loopw [3, 5] (fun s3 s5 wr => ∃ (kk k2 : Nat) (dk : Array (Int × Int)), s3 = .int .i64 kk ∧ s5 = .int .i64 k2 ∧ 1 ≤ k2 ∧ j + 1 + k2 ≤ N ∧ Hid (SW2 g w dk wr) ∧ Hid (Lib.CompInv d (j + 1 + k2) kk dk)) (fun _ s5 _ => N - (j + 1) - (intOf s5).toNat)
        case atStart => exact ⟨j + 1, 1, d, by go_num, rfl, Nat.le_refl _, by omega, HW2, HI0⟩
        obtain ⟨kk, k2, dk, rfl, rfl, h1, hle, HV, HI⟩ := hrel
        have hds := HI.out.size
        have hkk := HI.out.lt
        by_cases hl2 : j + 1 + k2 < N
        · obtain ⟨m, rfl⟩ : ∃ m, k2 = m + 1 := ⟨k2 - 1, by omega⟩
          have c0 := HV.out.row.a (j + 1 + (m + 1)) (by rw [hds, HN.out]; exact hl2)
          have c1 := HV.out.row.b (j + 1 + (m + 1)) (by rw [hds, HN.out]; exact hl2)
          have e0 := HV.out.row.a (j + 1 + m) (by rw [hds, HN.out]; omega)
          have e1 := HV.out.row.b (j + 1 + m) (by rw [hds, HN.out]; omega)
          rw [HI.out.high (j + 1 + (m + 1)) (by omega), show (j + 1 + (m + 1)) * 2 = (j + 1) * 2 + (m + 1) * 2 by omega] at c0 c1
          rw [HI.out.high (j + 1 + m) (by omega), show (j + 1 + m) * 2 = (j + 1) * 2 + m * 2 by omega] at e0 e1
          have k0 := HV.out.row.a kk (by rw [hds, HN.out]; omega)
          have k1 := HV.out.row.b kk (by rw [hds, HN.out]; omega)
          have k2' := HV.out.row.fr (kk * 2)
          have k3' := HV.out.row.fr (kk * 2 + 1)
          have q1 : ((m : Int) + 1).toNat = m + 1 := by omega
          have q0 : 0 ≤ (m : Int) + 1 := by omega
          have q4 : IntKind.i64.wrap (m : Int) = (m : Int) := IntWalk.i64_in _ (by omega)
          have q5 : (m : Int) + 1 < ((N - (j + 1) : Nat) : Int) := by omega
          have q6 : (m : Int) < ((N - (j + 1) : Nat) : Int) := by omega
          have q7 : (kk : Int) < N := by omega
          generalize hx : d[j + 1 + (m + 1)]! = x at *
          generalize hy : d[j + 1 + m]! = y at *
          generalize dk[kk]! = old at *
          obtain ⟨u1, u2'⟩ := x
          obtain ⟨v1, v2⟩ := y
          have HX := hid hx
          have HY := hid hy
          clear hx hy
          by_cases hf : (u1 == v1 && u2' == v2) = true
          · have HD := hid (show Lib.keeps d (j + 1 + (m + 1)) = false from Lib.keeps_neg (by omega) (by
              rw [show j + 1 + (m + 1) - 1 = j + 1 + m by omega, HX.out, HY.out]
              simp only [Bool.and_eq_true, beq_iff_eq] at hf
              rw [hf.1, hf.2]))
            have HI2 := hid (HI.out.skip HD.out)
            clear HD HX HY HI
            go_wp2_with fail
            go_quiet (fail)
            go_wp2_with fail
            go_roundw
            case rel => exact ⟨kk, m + 1 + 1, dk, rfl, by go_num, by omega, by omega, HV.out.drewN _, HI2⟩
            case measure => simp [intOf]; omega
          · have hf' : (u1 == v1 && u2' == v2) = false := by simpa using hf
            have HD := hid (show Lib.keeps d (j + 1 + (m + 1)) = true from Lib.keeps_pos (by
              rw [show j + 1 + (m + 1) - 1 = j + 1 + m by omega, HX.out, HY.out]
              intro h
              injection h with h1 h2
              apply hf
              simp [h1, h2]))
            have HI2 := hid (HI.out.keep (by rw [HN.out]; exact hl2) HD.out)
            rw [HX.out] at HI2
            have HV2 := hid (fun n => (HV.out.drewN n).put kk (by rw [hds, HN.out]; omega) (u1, u2'))
            clear HD HX HY HI hf
            go_wp2_with fail
            go_quiet (fail)
            go_wp2_with fail
            go_roundw
            case rel => exact ⟨kk + 1, m + 1 + 1, dk.setIfInBounds kk (u1, u2'), by go_num, by go_num, by omega, by omega, HV2.out _, HI2⟩
            case measure => simp [intOf]; omega
        · have hend : j + 1 + k2 = N := by omega
          have HI2 := hid (show Lib.CompInv d d.size kk dk by rw [HN.out, ← hend]; exact HI.out)
          have HC := hid (Cmpd.some_ HV.out HI2.out (List.replicate ((N - kk) * 2) (.int .i64 0)))
          have hcl : ∀ ty, (Builtin.clear_ #[32] ty #[.slice (some ⟨g, kk * 2, none⟩) (N - kk) (cap - kk)]).run Try.prog wr = .ok (.tuple #[]) (wr.setCells g (kk * 2) (List.replicate ((N - kk) * 2) (.int .i64 0))) := fun ty => run_clear2 wr ty g (kk * 2) (N - kk) (cap - kk) (by omega) (fun i hi => by
            have hb : kk + i / 2 < dk.size := by rw [hds, HN.out]; omega
            rcases (by omega : i % 2 = 0 ∨ i % 2 = 1) with e | e
            · rw [show kk * 2 + i = (kk + i / 2) * 2 by omega, HV.out.row.a _ hb]; rfl
            · rw [show kk * 2 + i = (kk + i / 2) * 2 + 1 by omega, HV.out.row.b _ hb]; rfl) (fun i => HV.out.row.fr i)
          have q5 : (kk : Int) ≤ N := by omega
          have q6 : (kk : Int) ≤ cap := by omega
          have q8 : ¬ ((k2 : Int) < ((N - (j + 1) : Nat) : Int)) := by omega
          go_wp2_with fail
          go_ret
          exact ⟨kk, rfl, HC.out⟩
      · have he' : (x1 == y1 && x2 == y2) = false := by simpa using he
        have HD := hid (show Lib.keeps d (j + 1) = true from Lib.keeps_pos (by
          rw [show j + 1 - 1 = j by omega, HX.out, HY.out]
          intro h
          injection h with h1 h2
          apply he
          simp [h1, h2]))
        clear he HX HY
        go_wp2_with fail
        go_quiet (fail)
        go_wp2_with fail
        go_roundw
        case rel =>
          refine ⟨j + 1 + 1, by omega, by omega, by go_num, HW.out.drewN _, fun i hi => ?_⟩
          rcases (by omega : i < j + 1 ∨ i = j + 1) with h | rfl
          · exact HA.out i h
          · exact HD.out
        case measure => simp [intOf]; omega
    · obtain rfl : k = N := by omega
      have HC := hid (Cmpd.all HW.out (by rw [HN.out]; exact HA.out))
      rw [HN.out] at HC
      go_wp2_with fail
      go_ret
      exact ⟨k, rfl, HC.out⟩
end Go.Proofs.Ythjjkpkohhmgcaa

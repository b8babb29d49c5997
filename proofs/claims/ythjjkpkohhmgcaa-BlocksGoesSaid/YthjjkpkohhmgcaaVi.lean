/- Blocks: whether they may be; Order, Back. -/
import Derived.Test.YthjjkpkohhmgcaaVh
namespace Go.Proofs.Ythjjkpkohhmgcaa
open Go.RowKit Go.Proofs.YthjjkpkohhmgcaaW.PrintWords

structure Sl where
  a : Option Addr
  n : Nat
  c : Nat
def Sl.v (s : Sl) : Value := .slice s.a s.n s.c
def kRaw : Kd Sl := Kd.scalar Sl.v (fun _ => rfl)
theorem infoInts : (Try.prog.info? 27).map (fun i => (i.zero, i.size, i.bytes)) = some (some (.slice none 0 0), 1, 24) := by kernel_rfl
/-- What check answers. -/
def checkE (L : List Bk) : Int :=
  if 8192 < L.length ∨ (L.map (·.goes)).any (manyB 20000) = true then 5
  else if L.length = 0 then 2
  else if (L.map (·.goes)).any (outB L.length) = true then 9
  else 0
theorem checkE_may (L : List Bk) : checkE L = 0 ↔ May 20000 L := by
  unfold checkE
  constructor
  · intro h
    split at h
    · cases h
    · rename_i h1
      split at h
      · cases h
      · rename_i h2
        split at h
        · cases h
        · rename_i h3
          refine ⟨by omega, by omega, fun b hb => ⟨?_, fun k hk => ?_⟩⟩
          · apply Classical.byContradiction
            intro hn
            exact h1 (.inr (List.any_eq_true.2 ⟨b.goes, List.mem_map_of_mem hb, by unfold manyB; simp; omega⟩))
          · apply Classical.byContradiction
            intro hn
            refine h3 (List.any_eq_true.2 ⟨b.goes, List.mem_map_of_mem hb, ?_⟩)
            unfold outB
            exact List.any_eq_true.2 ⟨k, hk, by simp; omega⟩
  · intro h
    have h1 : ¬ (8192 < L.length ∨ (L.map (·.goes)).any (manyB 20000) = true) := by
      rintro (h1 | h1)
      · have := h.few; omega
      · obtain ⟨l, hl, h2⟩ := List.any_eq_true.1 h1
        obtain ⟨b, hb, rfl⟩ := List.mem_map.1 hl
        have := (h.goes b hb).1
        unfold manyB at h2
        simp at h2
        omega
    rw [if_neg h1, if_neg (by have := h.pos; omega), if_neg]
    intro h3
    obtain ⟨l, hl, h2⟩ := List.any_eq_true.1 h3
    obtain ⟨b, hb, rfl⟩ := List.mem_map.1 hl
    obtain ⟨k, hk, h4⟩ := List.any_eq_true.1 h2
    have := (h.goes b hb).2 k hk
    simp at h4
    omega
theorem goes_raws {w : World} {lb lo n : Nat} {L : List Bk} (h : kB.C w (some ⟨lb, lo, none⟩) n L) : ∃ R : List Sl, R.length = n ∧ ∀ i s, R[i]? = some s → w.cell? ⟨lb, lo + i * 4, none⟩ = some (.int .i64 (L.getD i zBk).lo) ∧ w.cell? ⟨lb, lo + i * 4 + 1, none⟩ = some (.int .i64 (L.getD i zBk).hi) ∧ w.cell? ⟨lb, lo + i * 4 + 2, none⟩ = some (.slice s.a s.n s.c) ∧ w.cell? ⟨lb, lo + i * 4 + 3, none⟩ = some (.bool (L.getD i zBk).seen) ∧ s.n = (L.getD i zBk).goes.length ∧ s.n ≤ s.c ∧ kI.C w s.a s.n (L.getD i zBk).goes :=
  Op.list_of n (fun i hi => by
    obtain ⟨A, c, h1, h2, h3, h4, h5, h6⟩ := kB_get h hi
    exact ⟨⟨A, _, c⟩, h1, h2, h3, h4, rfl, h5, h6⟩)
set_option maxRecDepth 100000 in
theorem mk_ways (N : Nat) (hN : N * 24 ≤ 140737488355328) (W : World) : (Instr.makeSlice 40 (.int .i64 0) (.int .i64 (N : Int))).run Try.prog W = .ok (.slice (some ⟨W.heap.size, 0, none⟩) 0 N) (W.alloc (.cells (List.replicate N (.slice none 0 0)).toArray 27)) := by
  obtain ⟨i0, hi, hzz⟩ := Option.map_eq_some_iff.1 infoInts
  simp only [Prod.mk.injEq] at hzz
  obtain ⟨hz0, hz1, hz2⟩ := hzz
  have hr := run_make (P := Try.prog) W 40 27 i0 (.slice none 0 0) (by exact Try.underlying40) hi hz0 .i64 .i64 (0 : Int) (N : Int) (by omega) (by omega) (by rw [hz2]; omega) (by omega)
  simp only [Int.toNat_natCast] at hr
  rw [hz1, Nat.mul_one] at hr
  rw [hr]
  have : madeCells (Value.slice none 0 0).cells N = (List.replicate N (.slice none 0 0)).toArray := by
    apply Array.toList_inj.1
    rw [show (Value.slice none 0 0).cells = #[.slice none 0 0] from rfl, toList_madeCells_one]
  rw [this]
  rfl
theorem R_room {W : World} {base b N : Nat} (h : W.heap[b]? = some (.cells (Array.replicate N (.slice none 0 0)) 27 (0, 0))) (hb : base ≤ b) (hN : N ≤ 9223372036854775807) : kRaw.R 27 W base (fun _ => True) (.slice (some ⟨b, 0, none⟩) 0 N) [] :=
  Kd.R_of_own (h1 := fun _ => rfl) ⟨rfl, .inr ⟨b, N, Array.replicate N (.slice none 0 0), rfl, hb, h, Nat.zero_le _, hN, by simp, rfl⟩⟩ (fun _ _ => trivial)
theorem ways_C {w W : World} {base n c : Nat} {ok : Nat → Prop} {A : Option Addr} {L : List Bk} {R : List Sl} (h : kRaw.R 27 W base ok (.slice A n c) R) (hl : R.length = L.length) (hb : Below w.heap.size w W) (hx : ∀ i s, R[i]? = some s → s.n = (L.getD i zBk).goes.length ∧ s.n ≤ s.c ∧ kI.C w s.a s.n (L.getD i zBk).goes) : n = L.length ∧ kIs.C W A n (L.map (·.goes)) := by
  obtain ⟨h1, _, h2⟩ := Kd.R_reads' h
  have hn : n = L.length := by omega
  refine ⟨hn, by rw [List.length_map, hn], by rw [h1]; exact h2.2.1, fun hp => ?_⟩
  obtain ⟨b, off, rfl⟩ := C_plain h2 (by omega) (by decide)
  refine ⟨_, rfl, fun j p hp => ?_⟩
  have hj : j < L.length := by have := (List.getElem?_eq_some_iff.1 hp).1; simpa using this
  obtain ⟨s, hs⟩ : ∃ s, R[j]? = some s := ⟨_, List.getElem?_eq_getElem (by omega)⟩
  obtain ⟨x1, x2, x3⟩ := hx j s hs
  have hpe : p = (L.getD j zBk).goes := by
    rw [List.getElem?_map, List.getElem?_eq_getElem hj] at hp
    rw [List.getD_eq_getElem?_getD, List.getElem?_eq_getElem hj]
    simpa using hp.symm
  refine ⟨[.slice s.a s.n s.c], rfl, ⟨s.a, s.c, by rw [hpe, x1], by rw [hpe, ← x1]; exact x2, by rw [hpe, ← x1]; exact Kd.C_below x3 hb⟩, fun i u hu => ?_⟩
  cases i with
  | zero =>
    have : Value.slice s.a s.n s.c = u := by simpa using hu
    subst this
    have := C_scalar (h1 := fun _ => rfl) h2 ⟨none, 0, 0⟩ j (by omega)
    rw [List.getD_eq_getElem?_getD, hs] at this
    rw [add_off, show off + (j * kIs.sz + 0) = off + j by show off + (j * 1 + 0) = off + j; omega]
    exact this
  | succ i => simp at hu
set_option maxRecDepth 100000 in
set_option maxHeartbeats 8000000 in
theorem check_any (A : Option Addr) (c : Nat) (L : List Bk) (w : World) (hL : kB.C w A L.length L) (hb : L.length * 48 ≤ 140737488355328) :
    Calls Try.prog 24 #[.slice A L.length c] w fun e w' => e = .returned (.int .i64 (checkE L)) ∧ Below w.heap.size w w' := by
  have hmk := mk_ways L.length (by omega)
  have HL := hid hL
  have HB := hid hb
  obtain ⟨lb, lo, R, hRl, hA⟩ : ∃ lb lo, ∃ R : List Sl, R.length = L.length ∧ (0 < L.length → A = some ⟨lb, lo, none⟩ ∧ ∀ i s, R[i]? = some s → w.cell? ⟨lb, lo + i * 4, none⟩ = some (.int .i64 (L.getD i zBk).lo) ∧ w.cell? ⟨lb, lo + i * 4 + 1, none⟩ = some (.int .i64 (L.getD i zBk).hi) ∧ w.cell? ⟨lb, lo + i * 4 + 2, none⟩ = some (.slice s.a s.n s.c) ∧ w.cell? ⟨lb, lo + i * 4 + 3, none⟩ = some (.bool (L.getD i zBk).seen) ∧ s.n = (L.getD i zBk).goes.length ∧ s.n ≤ s.c ∧ kI.C w s.a s.n (L.getD i zBk).goes) := by
    by_cases hn : 0 < L.length
    · obtain ⟨lb, lo, rfl⟩ := C_plain hL hn (by decide)
      obtain ⟨R, h1, h2⟩ := goes_raws hL
      exact ⟨lb, lo, R, h1, fun _ => ⟨rfl, h2⟩⟩
    · exact ⟨0, 0, [], by simp; omega, fun h => absurd h hn⟩
  have HA := hid hA
  have HRL := hid hRl
  clear hL hA hRl
  have lN : L.length ≤ 2932031007402 := by omega
  clear hb
  generalize hN : L.length = N at *
  have HN := hid hN
  clear hN
  go_enter Try.func24, Try.ntmps24
  go_upto_region 2 with fail
  have HB1 := hid (below_alloc (Below.refl w.heap.size w) (.cells (Array.replicate N (.slice none 0 0)) 27))
  have HR1 := hid (R_room (N := N) (base := w.heap.size) (blk_new w (.cells (Array.replicate N (.slice none 0 0)) 27)) (Nat.le_refl _) (by omega))
  go_upto_region 3 with fail
  generalize w.alloc (.cells (Array.replicate N (.slice none 0 0)) 27) = w1 at *
  go_loopw [3, 11] (fun vV iV wr => ∃ q : Nat, q ≤ N ∧ iV = .int .i64 q ∧ Hid (kRaw.R 27 wr w.heap.size (fun _ => True) vV (R.take q)) ∧ Hid (Below w.heap.size w wr)) (fun _ iV _ => N - (intOf iV).toNat)
  case atStart => exact ⟨0, by omega, rfl, HR1, HB1⟩
  obtain ⟨q, hq, rfl, HR, HW⟩ := hrel
  by_cases hqN : q < N
  · obtain ⟨eA, hA⟩ := HA.out (by omega)
    subst eA
    obtain ⟨s, hs⟩ : ∃ s, R[q]? = some s := ⟨_, List.getElem?_eq_getElem (by rw [HRL.out]; exact hqN)⟩
    obtain ⟨x0, x1, x2, x3, x4, x5, _⟩ := hA q s hs
    have y0 := (HW.out.cell (World.block_lt_of_cell? w _ x0)).trans x0
    have y1 := (HW.out.cell (World.block_lt_of_cell? w _ x1)).trans x1
    have y2 := (HW.out.cell (World.block_lt_of_cell? w _ x2)).trans x2
    have y3 := (HW.out.cell (World.block_lt_of_cell? w _ x3)).trans x3
    have HS := hid hs
    have lq : (q : Int) < N := by omega
    clear hA x0 x1 x2 x3 x4 x5 hs hmk
    obtain ⟨Av, nv, cv, rfl⟩ : ∃ Av nv cv, u3 = .slice Av nv cv := R_sl HR.out
    obtain ⟨sa, sn, sc⟩ := s
    generalize (L.getD q zBk).lo = lo' at *
    generalize (L.getD q zBk).hi = hi' at *
    generalize (L.getD q zBk).seen = se' at *
    have hRw := hid (Kd.R_alloc HR.out (.cells #[.int .i64 lo', .int .i64 hi', .slice sa sn sc, .bool se'] 45))
    have hBw := hid (HW.out.alloc HW.out.size (.cells #[.int .i64 lo', .int .i64 hi', .slice sa sn sc, .bool se'] 45))
    have k5 := blk_cell (blk_new wr (.cells #[.int .i64 lo', .int .i64 hi', .slice sa sn sc, .bool se'] 45)) 2
    go_upto_region 5 with fail
    clear y0 y1 y2 y3
    generalize wr.alloc (.cells #[.int .i64 lo', .int .i64 hi', .slice sa sn sc, .bool se'] 45) = w5 at *
    go_wp2_with (at_builtin; refine Kd.R_append kRaw w.heap.size rfl (.tmp 15) (.tmp 18) 40 27 _ 24 rfl Try.underlying40 infoInts rfl (by decide) (by decide) _ (R.take q) ⟨sa, sn, sc⟩ [.slice sa sn sc] (fun _ => True) (fun _ => False) rfl rfl rfl (fun _ h => h.elim) (fun _ _ => trivial) hRw.out hBw.out hBw.out.size (by rw [List.length_take]; have := HB.out; omega) ?_; intro v1 w3 hR1 hB1 _ _; have H1 := hid hR1; have H2 := hid hB1; clear hR1 hB1)
    go_roundw
    case rel => exact ⟨q + 1, by omega, by go_num, by rw [List.take_add_one, HS.out]; exact H1, H2⟩
    case measure => simp [intOf]; omega
  · obtain rfl : q = N := by omega
    obtain ⟨Av, nv, cv, rfl⟩ : ∃ Av nv cv, u3 = .slice Av nv cv := R_sl HR.out
    obtain ⟨hnv, hWC⟩ := ways_C (L := L) (w := w) (by have := HR.out; rw [List.take_of_length_le (by rw [HRL.out]; exact Nat.le_refl _)] at this; exact this) (by rw [HRL.out, HN.out]) HW.out (fun i s hs => by
      have hi := (List.getElem?_eq_some_iff.1 hs).1
      obtain ⟨_, _, _, _, h5, h6, h7⟩ := (HA.out (by rw [HRL.out] at hi; omega)).2 i s hs
      exact ⟨h5, h6, h7⟩)
    rw [HN.out] at hnv
    subst hnv
    have HMM := hid (many_any (m := 20000) (B := wr.heap.size) (c := cv) (w := wr.alloc (.cells #[.int .i64 20000] 3)) (Kd.C_alloc hWC _) (by rw [World.size_alloc]; omega) (blk_cell (blk_new wr _) 0))
    have HOO := hid (fun W (hB : Below wr.heap.size wr W) => outs_any (m := (nv : Int)) (B := W.heap.size) (c := cv) (w := W.alloc (.cells #[.int .i64 (nv : Int)] 3)) (Kd.C_alloc (Kd.C_below hWC hB) _) (by rw [World.size_alloc]; omega) (blk_cell (blk_new W _) 0))
    have HE := hid (show checkE L = if 8192 < nv ∨ (L.map (·.goes)).any (manyB 20000) = true then 5 else if nv = 0 then 2 else if (L.map (·.goes)).any (outB nv) = true then 9 else 0 by unfold checkE; rw [HN.out])
    clear hWC hmk HR HR1 HA HB1 hqN
    generalize (L.map (·.goes)).any (manyB 20000) = bm at *
    generalize (L.map (·.goes)).any (outB nv) = bo at *
    by_cases h8 : 8192 < nv
    · have h8' : (8192 : Int) < nv := by omega
      go_wp2_with fail
      go_ret
      exact ⟨by rw [HE.out, if_pos (.inl h8)]; rfl, HW.out⟩
    · have h8' : ¬ ((8192 : Int) < nv) := by omega
      cases bm
      · by_cases h0 : nv = 0
        · subst h0
          go_wp2_with (first | (go_at_call 32; refine (tooMany_any _ _).mono ?_; rintro e w' ⟨rfl, rfl⟩) | (go_at_call 31; refine HMM.out.mono ?_; rintro e w' ⟨rfl, k, rfl⟩))
          go_ret
          exact ⟨by rw [HE.out]; simp [h8], (HW.out.alloc HW.out.size _).trans (pw_below_drewN (Below.refl _ _) _)⟩
        · have h0' : ¬ ((nv : Int) = 0) := by omega
          go_upto_region 9 with (first | (go_at_call 32; refine (tooMany_any _ _).mono ?_; rintro e w' ⟨rfl, rfl⟩) | (go_at_call 31; refine HMM.out.mono ?_; rintro e w' ⟨rfl, k, rfl⟩))
          have HBk := hid (pw_below_drewN (below_alloc (Below.refl wr.heap.size wr) (.cells #[.int .i64 20000] 3)) k)
          generalize (wr.alloc (.cells #[.int .i64 20000] 3)).drewN k = w6 at *
          have HO6 := hid (HOO.out w6 HBk.out)
          have HZ := hid (below_weaken HW.out HW.out.size HBk.out)
          clear HMM HOO
          cases bo
          all_goals
            go_wp2_with (first | (go_at_call 33; refine (outside_any _ _).mono ?_; rintro e w' ⟨rfl, rfl⟩) | (go_at_call 31; refine HO6.out.mono ?_; rintro e w' ⟨rfl, k, rfl⟩))
            go_ret
            exact ⟨by rw [HE.out]; simp [h8, h0], (HZ.out.alloc HZ.out.size _).trans (pw_below_drewN (Below.refl _ _) _)⟩
      · go_wp2_with (first | (go_at_call 32; refine (tooMany_any _ _).mono ?_; rintro e w' ⟨rfl, rfl⟩) | (go_at_call 31; refine HMM.out.mono ?_; rintro e w' ⟨rfl, k, rfl⟩))
        go_ret
        exact ⟨by rw [HE.out]; simp [h8], (HW.out.alloc HW.out.size _).trans (pw_below_drewN (Below.refl _ _) _)⟩
end Go.Proofs.Ythjjkpkohhmgcaa

/- The law BlocksGoes: where a block goes on is told by its last instruction and by what its instructions throw; what is reached is what one comes to. -/
import Derived.Test.YthjjkpkohhmgcaaZc
namespace Go.Proofs.Ythjjkpkohhmgcaa.blocksGoes
open Go.ChangeShapes Go.WideShapes Go.ChangeAt Go.RowKit
open Go.Proofs.Ythjjkpkohhmgcaa Go.Proofs.YthjjkpkohhmgcaaW.PrintWords Go.Proofs.Ythjjkpkohhmgcaa.Blk Go.Proofs.Ythjjkpkohhmgcaa.Dom

set_option maxRecDepth 100000 in
set_option maxHeartbeats 8000000 in
theorem walk (A1 : Option Addr) (next : List (List Int)) (c1 : Nat) (A2 : Option Addr) (thrown : List (List Int)) (c2 : Nat) (w : World) (_ : next.length ≤ c1) (h1 : kIs.C w A1 next.length next) (_ : gNss next) (hc2 : thrown.length ≤ c2) (h2 : kIs.C w A2 thrown.length thrown) (_ : gNss thrown) :
    Calls Try.prog 5 #[.slice A1 next.length c1, .slice A2 thrown.length c2] w fun e w' => e = .returned (.bool true) ∧ Below w.heap.size w w' := by
  have HWK := hid (works_any w)
  have HC1 := hid h1
  have HC2 := hid h2
  have HCC := hid hc2
  obtain ⟨n, hn⟩ : ∃ n, next.length = n := ⟨_, rfl⟩
  obtain ⟨T, hT⟩ : ∃ T, thrown.length = T := ⟨_, rfl⟩
  have HN := hid hn
  have HTT := hid hT
  clear h1 h2 hc2
  by_cases h200 : 200 < n
  · have l1 : (200 : Int) < n := by omega
    rw [hn, hT]
    clear hn hT
    go_enter Try.func5, Try.ntmps5
    go_wp2_with (go_at_call 9; refine HWK.out.mono ?_; rintro e w1 ⟨rfl, hB⟩; have HB1 := hid hB; clear hB)
    go_ret
    exact ⟨rfl, HB1.out⟩
  have l1 : ¬ ((200 : Int) < n) := by omega
  obtain ⟨z, hz⟩ : ∃ z, codeE next thrown = z := ⟨_, rfl⟩
  by_cases hz0 : z = 0
  · subst hz0
    have HMay := hid ((codeE_may next thrown).1 hz)
    have HOF := hid (fun (W : World) (hW : Below w.heap.size w W) => of_ok (c1 := c1) (Kd.C_below HC1.out hW) (Kd.C_below HC2.out hW) HCC.out hz)
    have hTn : T = n := by rw [← hT, ← hn]; exact HMay.out.eq
    subst hTn
    rw [hn, hT] at HOF ⊢
    rw [hn] at HC1
    rw [hT] at HC2
    obtain ⟨cd, hcd⟩ : ∃ cd, cd = codeOf next thrown := ⟨_, rfl⟩
    rw [← hcd] at HOF
    have HCD := hid hcd
    have HCN := hid (show cd.n = T by rw [hcd, codeOf_n, hn])
    have hTp : 0 < T := by rw [← hn]; exact HMay.out.pos
    have hmp : 0 < many cd := starts_pos cd (by rw [HCN.out]; exact hTp)
    obtain ⟨mN, hmN⟩ : ∃ m, many cd = m := ⟨_, rfl⟩
    rw [hmN] at HOF hmp
    have HMN := hid hmN
    have hmT : mN ≤ T := by
      have := starts_len cd cd.n
      rw [show (starts cd cd.n).length = mN from hmN, HCN.out] at this
      exact this
    obtain ⟨a1, o1, eA⟩ := C_plain HC1.out hTp (by decide)
    subst eA
    obtain ⟨a2, o2, eA⟩ := C_plain HC2.out hTp (by decide)
    subst eA
    have hmk := mk_bools mN (by omega)
    obtain ⟨D, hD⟩ : ∃ D, (lookS (outS cd [])).done = D := ⟨_, rfl⟩
    have HGL := hid (show GoL cd D by rw [← hD, hcd]; exact goL HMay.out)
    have HBG := hid (show ∀ b, b < mN → (blocksOf cd).getD b zBk = ⟨(fromB cd b : Int), (toB cd b : Int), ints (goes cd b), D.contains b⟩ by
      intro b hb
      have : D.contains b = decide (b ∈ D) := by rw [Bool.eq_iff_iff, List.contains_iff_mem, decide_eq_true_eq]
      rw [this, ← hD]
      exact outS_get (by rw [hmN]; exact hb))
    clear hn hT hz hcd hmN hD
    go_enter Try.func5, Try.ntmps5
    go_upto_region 3 with (go_at_call 9; refine HWK.out.mono ?_; rintro e w1 ⟨rfl, hB⟩; have HB1 := hid hB; clear hB)
    go_upto_region 6 with (go_at_call 20; refine (HOF.out _ HB1.out).mono ?_; rintro e w2 ⟨AL, cL, rfl, hC, hB⟩; have HL := hid hC; have HB2 := hid (below_step HB1.out hB); clear hC hB)
    obtain ⟨lb, lo, eA⟩ := C_plain HL.out hmp (by decide)
    subst eA
    clear HOF HWK HB1
    have HK0 := hid (show BRW w2 mN w2.heap.size (fun _ => false) (w2.alloc (.cells (Array.replicate mN (.bool false)) 4)) from BRW.made w2 mN)
    go_upto_region 9 with fail
    generalize hgg : w2.heap.size = g at *
    have HGG := hid hgg
    generalize World.alloc _ _ = w3 at *
    have c0 := HK0.out.at hmp
    have f0 := blk_frozen HK0.out.row 0
    have l0 : (0 : Int) < mN := by omega
    have HK1 := hid ((HK0.out.put 0 true).congr (p' := cgo cd D 0 0) (by rw [← cgo_zero]))
    clear hgg hmk HK0
    go_upto_region 11 with fail
    clear c0 f0
    generalize World.setCell _ _ _ = w4 at *
    go_loopw [8] (fun bV wr => ∃ b : Nat, b ≤ mN ∧ bV = .int .i64 b ∧ Hid (BRW w2 mN g (cgo cd D b 0) wr)) (fun bV _ => mN - (intOf bV).toNat)
    case atStart => exact ⟨0, by omega, rfl, HK1⟩
    obtain ⟨b, hb, rfl, HI⟩ := hrel
    clear HK1
    by_cases hbm : b < mN
    · have HBM := hid hbm
      obtain ⟨gA, gc, e0, e1, e2, e3, _, CG⟩ := kB_get HL.out hbm
      rw [HBG.out b hbm] at e0 e1 e2 e3 CG
      have hgs := goes_sorted cd b
      have hgm : (ints (goes cd b)).length ≤ mN := by
        rw [ints_len, ← HMN.out]
        unfold goes
        exact Nat.le_trans (List.length_filter_le _ _) (by rw [List.length_range]; exact Nat.le_refl _)
      have HWS := hid (fun k => wP_start cd b k)
      have HWT := hid (fun k i (h : fromB cd b ≤ i) => wP_step (c := cd) (b := b) (k := k) h)
      have HWA := hid (fun k (hk : k < mN) => wP_all (c := cd) (b := b) (k := k) (by rw [HMN.out]; exact hk))
      have HSH := hid (fun k => HGL.out.shut b k (by rw [HMN.out]; exact hbm))
      have HCS := hid (fun k z hz => cgo_step (c := cd) (D := D) (b := b) (k := k) (z := z) hz)
      obtain ⟨f1, f2⟩ := to_gt (c := cd) (b := b) (by rw [HMN.out]; exact hbm)
      rw [HCN.out] at f2
      dsimp only at e0 e1 e2 e3 CG
      have HE0 := hid (fun W (hB : Below w2.heap.size w2 W) => (hB.cell (World.block_lt_of_cell? w2 _ e0)).trans e0)
      have HE1 := hid (fun W (hB : Below w2.heap.size w2 W) => (hB.cell (World.block_lt_of_cell? w2 _ e1)).trans e1)
      have HE2 := hid (fun W (hB : Below w2.heap.size w2 W) => (hB.cell (World.block_lt_of_cell? w2 _ e2)).trans e2)
      have HE3 := hid (fun W (hB : Below w2.heap.size w2 W) => (hB.cell (World.block_lt_of_cell? w2 _ e3)).trans e3)
      have HCG := hid CG
      have HGO := hid hgs
      clear e0 e1 e2 e3 CG hgs
      generalize fromB cd b = fr at *
      generalize toB cd b = te at *
      generalize hgl : goes cd b = gl at *
      generalize hrb : D.contains b = rb at *
      have HGLE := hid hgl
      have HRB := hid hrb
      clear hgl hrb
      generalize hgn : (ints gl).length = gn at *
      rw [ints_len] at hgn
      have HGN := hid hgn
      clear hgn
      have l3 : (b : Int) < mN := by omega
      go_upto_region 14 with fail
      go_loopw [9] (fun kV wr => ∃ k : Nat, k ≤ mN ∧ kV = .int .i64 k ∧ Hid (BRW w2 mN g (cgo cd D b k) wr)) (fun kV _ => mN - (intOf kV).toNat)
      case atStart => exact ⟨0, by omega, rfl, HI⟩
      obtain ⟨k, hk, rfl, HJ⟩ := hrel
      clear HI
      by_cases hkm : k < mN
      · have HKM := hid hkm
        obtain ⟨_, _, e0, _, _, e3, _, _⟩ := kB_get HL.out hkm
        rw [HBG.out k hkm] at e0 e3
        dsimp only at e0 e3
        have HF0 := hid (fun W (hB : Below w2.heap.size w2 W) => (hB.cell (World.block_lt_of_cell? w2 _ e0)).trans e0)
        have HF3 := hid (fun W (hB : Below w2.heap.size w2 W) => (hB.cell (World.block_lt_of_cell? w2 _ e3)).trans e3)
        clear e0 e3
        obtain ⟨tt, htt⟩ : ∃ t, te = t + 1 := ⟨te - 1, by omega⟩
        have htI : (te : Int) - 1 = (tt : Int) := by omega
        have htT : tt < T := by omega
        obtain ⟨b1, k1, x1, C1⟩ := kIs_get HC1.out htT
        have HX1 := hid (fun W (hB : Below w2.heap.size w2 W) => ((below_step HB2.out hB).cell (World.block_lt_of_cell? w _ x1)).trans x1)
        obtain ⟨_, hb1⟩ := HMay.out.nxAt (i := tt) (by rw [HN.out]; exact htT)
        rw [HN.out] at hb1
        have HN1 := hid (show cd.nx tt = nats (next.getD tt []) by rw [HCD.out, codeOf_nx])
        generalize next.getD tt [] = r1 at *
        have HH1 := hid (show ∀ W, Below w2.heap.size w2 W → Calls Try.prog 21 #[.slice b1 r1.length k1, .int .i64 (fromB cd k)] W fun e w' => e = .returned (.bool (wP cd b k fr)) ∧ Below W.heap.size W w' by
          intro W hB
          have := has_any b1 k1 r1.length r1 (fromB cd k : Int) W (Kd.C_below C1 (below_step HB2.out hB))
          rwa [nats_contains hb1, ← HN1.out, show tt = te - 1 by omega, ← HWS.out k] at this)
        generalize r1.length = n1 at *
        have HH2 := hid (show ∀ i, fr ≤ i → i < T → ∃ (b2 : Option Addr) (n2 k2 : Nat) (bq : Bool), (cd.th i).contains (fromB cd k) = bq ∧ (∀ W, Below w2.heap.size w2 W → W.cell? ⟨a2, o2 + i, none⟩ = some (.slice b2 n2 k2)) ∧ ∀ W, Below w2.heap.size w2 W → Calls Try.prog 21 #[.slice b2 n2 k2, .int .i64 (fromB cd k)] W fun e w' => e = .returned (.bool bq) ∧ Below W.heap.size W w' by
          intro i _ hi
          obtain ⟨b2, k2, x2, C2⟩ := kIs_get HC2.out hi
          obtain ⟨_, hb2⟩ := HMay.out.thAt (i := i) (by rw [HN.out]; exact hi)
          rw [HN.out] at hb2
          refine ⟨b2, _, k2, _, rfl, fun W hB => ((below_step HB2.out hB).cell (World.block_lt_of_cell? w _ x2)).trans x2, fun W hB => ?_⟩
          have := has_any b2 k2 _ _ (fromB cd k : Int) W (Kd.C_below C2 (below_step HB2.out hB))
          rwa [nats_contains hb2, ← codeOf_th, ← HCD.out] at this)
        have HH3 := hid (show ∀ W, Below w2.heap.size w2 W → Calls Try.prog 21 #[.slice gA gn gc, .int .i64 k] W fun e w' => e = .returned (.bool (gl.contains k)) ∧ Below W.heap.size W w' by
          intro W hB
          have := has_any gA gc _ (ints gl) (k : Int) W (Kd.C_below HCG.out hB)
          rwa [ints_contains] at this)
        clear x1 C1 hb1 HN1 htt
        generalize hfk : fromB cd k = fk at *
        have HFK := hid hfk
        clear hfk
        have l4 : (k : Int) < mN := by omega
        have x0 := HF0.out wr HJ.out.below
        have x1 := HX1.out wr HJ.out.below
        have x4 := HE1.out wr HJ.out.below
        have ltt : (tt : Int) < T := by omega
        go_upto_region 18 with (go_at_call 21; refine (HH1.out _ HJ.out.below).mono ?_; rintro e w5 ⟨rfl, hB⟩; have HJ5 := hid (HJ.out.step hB); clear hB)
        clear x0 x1 x4
        have x4 := HE0.out w5 HJ5.out.below
        go_upto_region 19 with fail
        clear x4
        go_loopw [11, 12] (fun sV iV wr => ∃ i : Nat, fr ≤ i ∧ i ≤ te ∧ sV = .bool (wP cd b k i) ∧ iV = .int .i64 i ∧ Hid (BRW w2 mN g (cgo cd D b k) wr)) (fun _ iV _ => te - (intOf iV).toNat)
        case atStart => exact ⟨fr, by omega, by omega, rfl, rfl, HJ5⟩
        obtain ⟨i, hi1, hi2, rfl, rfl, HR⟩ := hrel
        clear HJ HJ5
        have x4 := HE1.out wr HR.out.below
        by_cases hit : i < te
        · have lit : (i : Int) < te := by omega
          have liT : (i : Int) < T := by omega
          obtain ⟨b2, n2, k2, bq, hbq, y2, HC2'⟩ := HH2.out i hi1 (by omega)
          have y2 := y2 wr HR.out.below
          have HC2' := hid HC2'
          have HWI := hid (HWT.out k i hi1)
          rw [HFK.out, hbq] at HWI
          clear hbq
          have HII := hid (show fr ≤ i + 1 ∧ i + 1 ≤ te by omega)
          cases hw : wP cd b k i
          · rw [hw] at HWI
            clear hw
            go_wp2_with (go_at_call 21; refine (HC2'.out _ HR.out.below).mono ?_; rintro e w7 ⟨rfl, hB⟩; have HR7 := hid (HR.out.step hB); clear hB)
            go_roundw
            case rel => exact ⟨i + 1, HII.out.1, HII.out.2, by rw [HWI.out, Bool.false_or], by go_num, HR7⟩
            case measure => have := HII.out; simp [intOf]; omega
          · rw [hw] at HWI
            clear hw
            go_wp2_with fail
            go_roundw
            case rel => exact ⟨i + 1, HII.out.1, HII.out.2, by rw [HWI.out]; rfl, by go_num, HR⟩
            case measure => have := HII.out; simp [intOf]; omega
        · obtain rfl : i = te := by omega
          have lit : ¬ ((i : Int) < i) := by omega
          rw [HWA.out k hkm]
          have x5 := HE2.out wr HR.out.below
          obtain ⟨wb, hwb⟩ : ∃ z, gl.contains k = z := ⟨_, rfl⟩
          obtain ⟨rk, hrk⟩ : ∃ z, D.contains k = z := ⟨_, rfl⟩
          have HSK := hid (HSH.out k)
          have HZ0 := hid (fun W (h : BRW w2 mN g (cgo cd D b k) W) z hz => (h.put k z).congr (HCS.out k z hz))
          rw [hwb] at HH3 HSK HZ0 ⊢
          rw [hrk] at HSK HF3
          clear hwb hrk
          obtain ⟨cg, hcg⟩ : ∃ z, cgo cd D b k k = z := ⟨_, rfl⟩
          rw [hcg] at HZ0
          have HCGG := hid hcg
          clear hcg
          go_upto_region 24 with (go_at_call 21; refine (HH3.out _ HR.out.below).mono ?_; rintro e w7 ⟨rfl, hB⟩; have HR7 := hid (HR.out.step hB); clear hB)
          clear x5 x4
          have HZ := hid (HZ0.out w7 HR7.out)
          have c0 := HR7.out.at hkm
          rw [HCGG.out] at c0
          have f0 := blk_frozen HR7.out.row k
          have y3 := HE3.out w7 HR7.out.below
          clear HZ0 HCGG
          cases cg
          all_goals cases wb
          all_goals cases rb
          all_goals
            first | have HP := hid (HZ.out true rfl) | have HP := hid (HZ.out false rfl)
            go_upto_region 25 with fail
            clear c0 f0 y3 HZ
            generalize World.setCell _ _ _ = w9 at *
            have y3 := HE3.out w9 HP.out.below
            have z3 := HF3.out w9 HP.out.below
            first | rw [show rk = true from HSK.out rfl rfl] at z3 | skip
            go_wp2_with fail
            go_roundw
            case rel => exact ⟨k + 1, HKM.out, by go_num, HP⟩
            case measure => have := HKM.out; simp [intOf]; omega
      · obtain rfl : k = mN := by omega
        have HJ2 := hid (HJ.out.congr (p' := cgo cd D (b + 1) 0) (by rw [← HMN.out]; exact cgo_all))
        clear HJ
        have l4 : ¬ ((k : Int) < k) := by omega
        go_upto_region 28 with fail
        go_loopw [13] (fun jV wr => ∃ j : Nat, 1 ≤ j ∧ jV = .int .i64 j ∧ Hid (BRW w2 k g (cgo cd D (b + 1) 0) wr)) (fun jV _ => gn - (intOf jV).toNat)
        case atStart => exact ⟨1, by omega, rfl, HJ2⟩
        obtain ⟨j, hj, rfl, HD⟩ := hrel
        clear HJ2
        have x5 := HE2.out wr HD.out.below
        by_cases hjg : j < gn
        · have ljg : (j : Int) < gn := by omega
          obtain ⟨j0, hj0⟩ : ∃ x, j = x + 1 := ⟨j - 1, by omega⟩
          have hjj : (j : Int) - 1 = (j0 : Int) := by omega
          obtain ⟨ga, oa, eA⟩ := C_plain HCG.out (by omega) (by decide)
          subst eA
          have g1 : j < gl.length := by rw [HGN.out]; exact hjg
          have g0 : j0 < gl.length := by omega
          have d1 := C_scalar (h1 := fun _ => rfl) (Kd.C_below HCG.out HD.out.below) 0 j (by rw [ints_len]; exact g1)
          have d0 := C_scalar (h1 := fun _ => rfl) (Kd.C_below HCG.out HD.out.below) 0 j0 (by rw [ints_len]; exact g0)
          rw [show (ints gl).getD j 0 = ((gl[j] : Nat) : Int) by simp [ints, List.getD, g1]] at d1
          rw [show (ints gl).getD j0 0 = ((gl[j0] : Nat) : Int) by simp [ints, List.getD, g0]] at d0
          have hlt := List.pairwise_iff_getElem.1 HGO.out j0 j g0 g1 (by omega)
          generalize gl[j] = u at *
          generalize gl[j0] = v at *
          have l9 : ¬ ((u : Int) ≤ v) := by omega
          have l8 : (j0 : Int) < gn := by omega
          have HJG := hid hjg
          clear hlt g1 g0 hj0
          go_wp2_with fail
          go_quiet (fail)
          go_wp2_with fail
          go_roundw
          case rel => exact ⟨j + 1, by omega, by go_num, HD.out.step (below_drewN' wr nq)⟩
          case measure => have := HJG.out; simp [intOf]; omega
        · have ljg : ¬ ((j : Int) < gn) := by omega
          go_wp2_with fail
          go_roundw
          case rel => exact ⟨b + 1, HBM.out, by go_num, HD⟩
          case measure => have := HBM.out; simp [intOf]; omega
    · obtain rfl : b = mN := by omega
      have l3 : ¬ ((b : Int) < b) := by omega
      go_upto_region 33 with fail
      go_loopw [14] (fun xV wr => ∃ x : Nat, x ≤ b ∧ xV = .int .i64 x ∧ Hid (BRW w2 b g (cgo cd D b 0) wr)) (fun xV _ => b - (intOf xV).toNat)
      case atStart => exact ⟨0, by omega, rfl, HI⟩
      obtain ⟨x, hx, rfl, HJ⟩ := hrel
      clear HI
      by_cases hxb : x < b
      · obtain ⟨_, _, _, _, _, e3, _, _⟩ := kB_get HL.out hxb
        rw [HBG.out x hxb] at e3
        dsimp only at e3
        have y3 := (HJ.out.below.cell (World.block_lt_of_cell? w2 _ e3)).trans e3
        have c0 := HJ.out.at hxb
        have hcm := HGL.out.come x
        rw [HMN.out] at hcm
        have lx : (x : Int) < b := by omega
        have HXB := hid hxb
        cases hr : D.contains x
        · rw [hr] at y3
          clear hcm hr c0 e3
          go_wp2_with fail
          go_roundw
          case rel => exact ⟨x + 1, HXB.out, by go_num, HJ⟩
          case measure => have := HXB.out; simp [intOf]; omega
        · rw [hr] at y3
          rw [hcm hr] at c0
          clear hcm hr e3
          go_wp2_with fail
          go_roundw
          case rel => exact ⟨x + 1, HXB.out, by go_num, HJ⟩
          case measure => have := HXB.out; simp [intOf]; omega
      · obtain rfl : x = b := by omega
        obtain ⟨_, _, _, _, _, e3, _, _⟩ := kB_get HL.out hmp
        rw [HBG.out 0 hmp] at e3
        dsimp only at e3
        rw [HGL.out.root, show lo + 0 * 4 + 3 = lo + 3 by omega] at e3
        have y3 := (HJ.out.below.cell (World.block_lt_of_cell? w2 _ e3)).trans e3
        have l0 : (0 : Int) < x := by omega
        have lx : ¬ ((x : Int) < x) := by omega
        clear e3
        go_wp2_with fail
        go_ret
        exact ⟨rfl, below_step HB2.out HJ.out.below⟩
  · have HE1 := hid (fun (W : World) (hW : Below w.heap.size w W) => of_err (c1 := c1) (Kd.C_below HC1.out hW) (Kd.C_below HC2.out hW) HCC.out (by rw [hz]; exact hz0))
    rw [hn, hT, hz] at HE1
    rw [hn, hT]
    have b1 : (z != 0) = true := by simp [hz0]
    clear hn hT hz hz0
    go_enter Try.func5, Try.ntmps5
    go_upto_region 3 with (go_at_call 9; refine HWK.out.mono ?_; rintro e w1 ⟨rfl, hB⟩; have HB1 := hid hB; clear hB)
    go_wp2_with (go_at_call 20; refine (HE1.out _ HB1.out).mono ?_; rintro e w2 ⟨rfl, hB⟩; have HB2 := hid (below_step HB1.out hB); clear hB)
    go_ret
    exact ⟨rfl, HB2.out⟩
set_option maxRecDepth 100000 in
theorem lifted (os : Os) (started : os.Started) (H : Type) (enc : TypeId × Value → H) :
    ReturnsInHanded {} Try.checked os 5 .any (Rows.blocksGoesSpec.pre6 enc Try.prog Try.f5 Rows.blocksGoesRow.domain false)
      (Rows.blocksGoesSpec.post enc Try.prog Try.f5 false true false false) := by
  refine returnsInHanded_of_change_sized (C := Try.checked) own started (by kernel_rfl) Try.func5
    (ChangeSpec.witness6 (enc := enc) (C := Try.checked) false ⟨#[], #[.slice none 0 0, .slice none 0 0], []⟩ 8 (by kernel_rfl) (by kernel_rfl) (by kernel_rfl) (by kernel_rfl)) ?_
  intro W base args ds gs before hval0 hW hcnd hsz0 _
  have hval : ∀ (j : Nat) t v, Try.f5.params[j]? = some t → args[j]? = some v → Value.okWide Try.prog W .any base t v := hval0
  have hsz : (DataW.weightsEach Try.prog (Try.f5.params.toList ++ Rows.blocksGoesSpec.plain.varTypes Try.prog) (ds ++ gs)).all (· ≤ reachBytes) = true := hsz0
  have hW' := hW
  obtain ⟨p, q, hA0, hV, rfl, hfz, hnd⟩ := hW
  have hA : DataW.TrodAll enc Try.prog W 0 (fun _ => true) true Try.f5.params.toList args.toList ds p := hA0
  rw [Try.params5] at hA hval hsz
  obtain ⟨v0, vs0, d0, ds0, p0, q0, hargs, rfl, rfl, h0, r0⟩ := trodAll_cons hA
  obtain ⟨v1, vs1, d1, ds1, p1, q1, rfl, rfl, rfl, h1, r1⟩ := trodAll_cons r0
  obtain ⟨rfl, rfl, rfl⟩ := trodAll_nil r1
  obtain rfl : args = #[v0, v1] := by cases args; simp_all
  obtain ⟨rfl, rfl⟩ := trodVars_none hV
  have y0 := h0
  obtain ⟨A0, l0, c0, rfl, k0, C0, g0⟩ := openNss (hval 0 40 v0 rfl rfl) h0 (Op.weights_of hsz (j := 0) rfl rfl)
  have y1 := h1
  obtain ⟨A1, l1, c1, rfl, k1, C1, g1⟩ := openNss (hval 1 40 v1 rfl rfl) h1 (Op.weights_of hsz (j := 1) rfl rfl)
  clear hA0 hval0 hsz0 hsz
  refine (walk A0 l0 c0 A1 l1 c1 W k0 C0 g0 k1 C1 g1).mono fun e W' ⟨he, bel⟩ => ?_
  subst he
  exact ⟨_, rfl, _, _, _, [], _, [], hW', trodAll_mk1 (shut_bool Try.underlying4 _), (trodAll_cons_mk (Below.trod laidOut (by kernel_rfl) (of_decide_eq_true (by kernel_rfl)) y0 bel (Op.trod_places y0)) (trodAll_cons_mk (Below.trod laidOut (by kernel_rfl) (of_decide_eq_true (by kernel_rfl)) y1 bel (Op.trod_places y1)) trodAll_mk0)), rfl, bel.frame _, fun h => by cases h⟩

theorem over : Rows.BlocksGoesSaid :=
  OpenClaim.holds_of_wide 5 Try.f5 rfl rfl rfl rfl rfl rfl rfl ⟨rfl, rfl, rfl, rfl, rfl⟩ rfl rfl rfl rfl rfl (by kernel_rfl) Try.func5 (by kernel_rfl)
    (of_decide_eq_true (by kernel_rfl)) (by unfold Func.isWrapper; first | (rw [if_pos (by decide +kernel)]; kernel_rfl) | (rw [if_neg (by decide +kernel)]; exact ⟨rfl, rfl⟩))
    (fun os started H enc _ => lifted os started H enc)

end Go.Proofs.Ythjjkpkohhmgcaa.blocksGoes

/- The law BlocksJoin: the blocks stand one behind the other; within each one each instruction goes on to the next alone; they are as long as can be. -/
import Derived.Test.YthjjkpkohhmgcaaZa
import Derived.BigRegion
namespace Go.Proofs.Ythjjkpkohhmgcaa.blocksJoin
open Go.ChangeShapes Go.WideShapes Go.ChangeAt Go.RowKit
open Go.Proofs.Ythjjkpkohhmgcaa Go.Proofs.YthjjkpkohhmgcaaW.PrintWords Go.Proofs.Ythjjkpkohhmgcaa.Blk Go.Proofs.Ythjjkpkohhmgcaa.Dom

set_option maxRecDepth 100000 in
set_option maxHeartbeats 8000000 in
theorem walk (A1 : Option Addr) (next : List (List Int)) (c1 : Nat) (A2 : Option Addr) (thrown : List (List Int)) (c2 : Nat) (w : World) (_ : next.length ≤ c1) (h1 : kIs.C w A1 next.length next) (_ : gNss next) (hc2 : thrown.length ≤ c2) (h2 : kIs.C w A2 thrown.length thrown) (_ : gNss thrown) :
    Calls Try.prog 4 #[.slice A1 next.length c1, .slice A2 thrown.length c2] w fun e w' => e = .returned (.bool true) ∧ Below w.heap.size w w' := by
  have HWK := hid (works_any w)
  have HC1 := hid h1
  have HC2 := hid h2
  have HCC := hid hc2
  obtain ⟨n, hn⟩ : ∃ n, next.length = n := ⟨_, rfl⟩
  obtain ⟨T, hT⟩ : ∃ T, thrown.length = T := ⟨_, rfl⟩
  have HN := hid hn
  have HTT := hid hT
  clear h1 h2 hc2
  by_cases h300 : 300 < n
  · have l1 : (300 : Int) < n := by omega
    rw [hn, hT]
    clear hn hT
    go_enter Try.func4, Try.ntmps4
    go_wp2_with (go_at_call 9; refine HWK.out.mono ?_; rintro e w1 ⟨rfl, hB⟩; have HB1 := hid hB; clear hB)
    go_ret
    exact ⟨rfl, HB1.out⟩
  have l1 : ¬ ((300 : Int) < n) := by omega
  obtain ⟨z, hz⟩ : ∃ z, codeE next thrown = z := ⟨_, rfl⟩
  by_cases hz0 : z = 0
  · subst hz0
    have HMay := hid ((codeE_may next thrown).1 hz)
    have HOF := hid (fun (W : World) (hW : Below w.heap.size w W) => of_ok (c1 := c1) (Kd.C_below HC1.out hW) (Kd.C_below HC2.out hW) HCC.out hz)
    have hTn : T = n := by rw [← hT, ← hn]; exact HMay.out.eq
    subst hTn
    rw [hn, hT] at HOF ⊢
    rw [hn] at HC1
    rw [hT] at HC2
    obtain ⟨cd, hcd⟩ : ∃ cd, cd = codeOf next thrown := ⟨_, rfl⟩
    rw [← hcd] at HOF
    have HCD := hid hcd
    have HCN := hid (show cd.n = T by rw [hcd, codeOf_n, hn])
    have hTp : 0 < T := by rw [← hn]; exact HMay.out.pos
    have hmp : 0 < many cd := starts_pos cd (by rw [HCN.out]; exact hTp)
    obtain ⟨mN, hmN⟩ : ∃ m, many cd = m := ⟨_, rfl⟩
    rw [hmN] at HOF hmp
    have HMN := hid hmN
    have hmT : mN ≤ T := by
      have := starts_len cd cd.n
      rw [show (starts cd cd.n).length = mN from hmN, HCN.out] at this
      exact this
    obtain ⟨a1, o1, eA⟩ := C_plain HC1.out hTp (by decide)
    subst eA
    obtain ⟨a2, o2, eA⟩ := C_plain HC2.out hTp (by decide)
    subst eA
    obtain ⟨m, hm⟩ : ∃ m, m = T + 1 := ⟨_, rfl⟩
    have hmk := mk_bools m (by omega)
    rw [show (m : Int) = (T : Int) + 1 by omega] at hmk
    have HM := hid hm
    clear hn hT hz hcd hmN hm
    go_enter Try.func4, Try.ntmps4
    go_upto_region 3 with (go_at_call 9; refine HWK.out.mono ?_; rintro e w1 ⟨rfl, hB⟩; have HB1 := hid hB; clear hB)
    go_upto_region 6 with (go_at_call 20; refine (HOF.out _ HB1.out).mono ?_; rintro e w2 ⟨AL, cL, rfl, hC, hB⟩; have HL := hid hC; have HB2 := hid (below_step HB1.out hB); clear hC hB)
    obtain ⟨lb, lo, eA⟩ := C_plain HL.out hmp (by decide)
    subst eA
    clear HOF HWK HB1
    have HK0 := hid (BRW.made w2 m)
    go_upto_region 10 with fail
    generalize hgg : w2.heap.size = g at *
    have HGG := hid hgg
    clear hgg hmk
    go_upto_region 11 with fail
    go_loopw [9] (fun iV wr => ∃ i : Nat, i ≤ T ∧ iV = .int .i64 i ∧ Hid (BRW w2 m g (cmTo cd i) wr)) (fun iV _ => T - (intOf iV).toNat)
    case atStart => exact ⟨0, by omega, rfl, HK0.out.congr (cmTo_zero cd)⟩
    obtain ⟨i, hi, rfl, HI⟩ := hrel
    clear HK0
    by_cases hiT : i < T
    · obtain ⟨b1, k1, x1, C1⟩ := kIs_get HC1.out hiT
      obtain ⟨b2, k2, x2, C2⟩ := kIs_get HC2.out hiT
      have HN1 := hid (show cd.nx i = nats (next.getD i []) by rw [HCD.out, codeOf_nx])
      have HN2 := hid (show cd.th i = nats (thrown.getD i []) by rw [HCD.out, codeOf_th])
      obtain ⟨_, hb1⟩ := HMay.out.nxAt (i := i) (by rw [HN.out]; exact hiT)
      obtain ⟨_, hb2⟩ := HMay.out.thAt (i := i) (by rw [HN.out]; exact hiT)
      rw [HN.out] at hb1 hb2
      generalize next.getD i [] = r1 at *
      generalize thrown.getD i [] = r2 at *
      have HR1 := hid hb1
      have HR2' := hid hb2
      have HC1' := hid C1
      have HC2' := hid C2
      have HX1 := hid (fun W (hB : Below w2.heap.size w2 W) => ((below_step HB2.out hB).cell (World.block_lt_of_cell? w _ x1)).trans x1)
      have HX2 := hid (fun W (hB : Below w2.heap.size w2 W) => ((below_step HB2.out hB).cell (World.block_lt_of_cell? w _ x2)).trans x2)
      clear x1 x2 C1 C2 hb1 hb2
      generalize hn1 : r1.length = n1 at *
      generalize hn2 : r2.length = n2 at *
      have HL1 := hid hn1
      have HL2 := hid hn2
      clear hn1 hn2
      have y1 := HX1.out wr HI.out.below
      have li : (i : Int) < T := by omega
      go_upto_region 14 with fail
      clear y1
      go_loopw [10] (fun qV wr => ∃ q : Nat, q ≤ n1 ∧ qV = .int .i64 q ∧ Hid (BRW w2 m g (cm1 cd i q) wr)) (fun qV _ => n1 - (intOf qV).toNat)
      case atStart => exact ⟨0, by omega, rfl, by rw [cm1_zero]; exact HI⟩
      obtain ⟨q, hq, rfl, HR⟩ := hrel
      clear HI
      have y1 := HX1.out wr HR.out.below
      by_cases hqn : q < n1
      · obtain ⟨v, hv, hgv, hcv⟩ := nats_get HR1.out (q := q) (by rw [HL1.out]; exact hqn)
        obtain ⟨ga, oa, eA⟩ := C_plain HC1'.out (by omega) (by decide)
        subst eA
        have d1 := C_scalar (h1 := fun _ => rfl) HC1'.out 0 q (by rw [HL1.out]; exact hqn)
        rw [hcv] at d1
        have d2 := ((below_step HB2.out HR.out.below).cell (World.block_lt_of_cell? w _ d1)).trans d1
        have HGV := hid (show (cd.nx i)[q]? = some v by rw [HN1.out]; exact hgv)
        have lq : (q : Int) < n1 := by omega
        have hvm : v < m := by rw [HM.out]; omega
        have c0 := HR.out.at hvm
        have f0 := blk_frozen HR.out.row v
        have lv : (v : Int) < m := by omega
        have HPT := hid (fun z (hz : z = (cm1 cd i q v || v != i + 1)) => (HR.out.put v z).congr (cm1_step HGV.out hz))
        clear d1 hcv hgv HR
        go_upto_region 16 with fail
        cases hp : cm1 cd i q v
        · rw [hp] at c0 HPT
          by_cases hvi : v = i + 1
          · have b1 : ((v : Int) != (i : Int) + 1) = false := by simp; omega
            have HP := hid (HPT.out false (by simp [hvi]))
            clear hvi hp HPT
            go_region
            have HP2 := hid (HP.out.step (below_drewN' _ 1))
            clear HP
            go_wp2_with fail
            go_roundw
            case rel => exact ⟨q + 1, by omega, by go_num, HP2⟩
            case measure => simp [intOf]; omega
          · have b1 : ((v : Int) != (i : Int) + 1) = true := by simp; omega
            have HP := hid (HPT.out true (by simp [hvi]))
            clear hvi hp HPT
            go_region
            have HP2 := hid (HP.out.step (below_drewN' _ 1))
            clear HP
            go_wp2_with fail
            go_roundw
            case rel => exact ⟨q + 1, by omega, by go_num, HP2⟩
            case measure => simp [intOf]; omega
        · rw [hp] at c0 HPT
          have HP := hid (HPT.out true (by simp))
          clear hp HPT
          go_region
          have HP2 := hid (HP.out.step (below_drewN' _ 1))
          clear HP
          go_wp2_with fail
          go_roundw
          case rel => exact ⟨q + 1, by omega, by go_num, HP2⟩
          case measure => simp [intOf]; omega
      · obtain rfl : q = n1 := by omega
        have y2 := HX2.out wr HR.out.below
        have HR2 := hid (show BRW w2 m g (cm2 cd i 0) wr from HR.out.congr (by rw [cm2_zero]; rw [show q = (cd.nx i).length by rw [HN1.out, nats_len, HL1.out]]))
        clear HR
        go_upto_region 18 with fail
        clear y1 y2
        go_loopw [11] (fun qV wr => ∃ q : Nat, q ≤ n2 ∧ qV = .int .i64 q ∧ Hid (BRW w2 m g (cm2 cd i q) wr)) (fun qV _ => n2 - (intOf qV).toNat)
        case atStart => exact ⟨0, by omega, rfl, HR2⟩
        obtain ⟨q2, hq2, rfl, HR⟩ := hrel
        clear HR2
        have y2 := HX2.out wr HR.out.below
        by_cases hqn2 : q2 < n2
        · obtain ⟨v, hv, hgv, hcv⟩ := nats_get HR2'.out (q := q2) (by rw [HL2.out]; exact hqn2)
          obtain ⟨ga, oa, eA⟩ := C_plain HC2'.out (by omega) (by decide)
          subst eA
          have d1 := C_scalar (h1 := fun _ => rfl) HC2'.out 0 q2 (by rw [HL2.out]; exact hqn2)
          rw [hcv] at d1
          have d2 := ((below_step HB2.out HR.out.below).cell (World.block_lt_of_cell? w _ d1)).trans d1
          have HGV := hid (show (cd.th i)[q2]? = some v by rw [HN2.out]; exact hgv)
          have lq : (q2 : Int) < n2 := by omega
          have hvm : v < m := by rw [HM.out]; omega
          have c0 := HR.out.at hvm
          have f0 := blk_frozen HR.out.row v
          have lv : (v : Int) < m := by omega
          have HP := hid ((HR.out.put v true).congr (cm2_step HGV.out))
          clear d1 hcv hgv HR
          go_wp2_with fail
          generalize World.setCell _ _ _ = w9 at *
          go_roundw
          case rel => exact ⟨q2 + 1, by omega, by go_num, HP⟩
          case measure => simp [intOf]; omega
        · obtain rfl : q2 = n2 := by omega
          have HR3 := hid (show BRW w2 m g (cmTo cd (i + 1)) wr from HR.out.congr (by rw [← cm2_all]; rw [show q2 = (cd.th i).length by rw [HN2.out, nats_len, HL2.out]]))
          clear HR
          go_wp2_with fail
          go_roundw
          case rel => exact ⟨i + 1, by omega, by go_num, HR3⟩
          case measure => simp [intOf]; omega
    · obtain rfl : i = T := by omega
      have HCM := hid (show BRW w2 m g (cmTo cd cd.n) wr by rw [HCN.out]; exact HI.out)
      obtain ⟨wC, rfl⟩ : ∃ x : World, x = wr := ⟨_, rfl⟩
      obtain ⟨p, hp⟩ : ∃ p, cmTo cd cd.n = p := ⟨_, rfl⟩
      rw [hp] at HCM
      have HPE := hid hp
      clear hp
      have HCX := hid (show ∀ W, Below wC.heap.size wC W → ∀ b, b < m → W.cell? ⟨g, b, none⟩ = some (.bool (p b)) by
        intro W hB b hb
        rw [blk_cell (blk_below HCM.out.row hB), bRow_get _ hb])
      have HBC := hid (below_step HB2.out HI.out.below)
      have HFB := hid (show ∀ b, b < mN → fromB cd b < toB cd b ∧ toB cd b ≤ i by intro b hb; have := to_gt (c := cd) (b := b) (by rw [HMN.out]; exact hb); rwa [HCN.out] at this)
      clear HI
      go_upto_region 23 with fail
      go_loopw [12, 13] (fun aV bV wr => ∃ b : Nat, b ≤ mN ∧ aV = .int .i64 (fromB cd b) ∧ bV = .int .i64 b ∧ Hid (Below wC.heap.size wC wr)) (fun _ bV _ => mN - (intOf bV).toNat)
      case atStart => exact ⟨0, by omega, by rw [from_zero (by rw [HCN.out]; exact hTp)]; rfl, rfl, Below.refl _ _⟩
      obtain ⟨b, hb, rfl, rfl, HR⟩ := hrel
      by_cases hbm : b < mN
      · obtain ⟨f1, f2⟩ := HFB.out b hbm
        obtain ⟨gA, gc, e0, e1, _, _, _, _⟩ := kB_get HL.out hbm
        rw [show (blocksOf cd).getD b zBk = _ from outS_get (by rw [HMN.out]; exact hbm)] at e0 e1
        have HX0 := hid (fun W (hB : Below wC.heap.size wC W) => (((below_step (HCM.out.below) hB).cell (World.block_lt_of_cell? w2 _ e0)).trans e0))
        have HX1 := hid (fun W (hB : Below wC.heap.size wC W) => (((below_step (HCM.out.below) hB).cell (World.block_lt_of_cell? w2 _ e1)).trans e1))
        have HIN := hid (fun i (h1 : fromB cd b ≤ i) (h2 : i + 1 < toB cd b) => inner (c := cd) (b := b) (by rw [HMN.out]; exact hbm) h1 h2)
        have HNB := hid (fun i (h1 : fromB cd b < i) (h2 : i < toB cd b) => no_bg (c := cd) (b := b) (by rw [HMN.out]; exact hbm) h1 h2)
        have HTB := hid (show toB cd b = fromB cd (b + 1) from rfl)
        clear e0 e1
        dsimp only at HX0 HX1
        generalize fromB cd b = fr at *
        generalize toB cd b = te at *
        have x0 := HX0.out wr HR.out
        have x1 := HX1.out wr HR.out
        have lb : (b : Int) < mN := by omega
        have l5 : ¬ ((te : Int) ≤ fr) := by omega
        have l6 : ¬ ((i : Int) < te) := by omega
        have HBM : Hid (b + 1 ≤ mN) := hbm
        go_upto_region 28 with fail
        clear x0 x1 l5
        go_loopw [14] (fun iV wr => ∃ j : Nat, fr ≤ j ∧ j + 1 ≤ te ∧ iV = .int .i64 j ∧ Hid (Below wC.heap.size wC wr)) (fun iV _ => te - (intOf iV).toNat)
        case atStart => exact ⟨fr, by omega, by omega, rfl, HR⟩
        obtain ⟨j, hj1, hj2, rfl, HD⟩ := hrel
        clear HR
        have x1 := HX1.out wr HD.out
        have hji : j < i := by omega
        obtain ⟨b1, k1, y1, C1⟩ := kIs_get HC1.out hji
        have y1 := ((below_step HBC.out HD.out).cell (World.block_lt_of_cell? w _ y1)).trans y1
        have HN1 := hid (show cd.nx j = nats (next.getD j []) by rw [HCD.out, codeOf_nx])
        obtain ⟨_, hb1⟩ := HMay.out.nxAt (i := j) (by rw [HN.out]; exact hji)
        rw [HN.out] at hb1
        generalize next.getD j [] = r1 at *
        have lji : (j : Int) < i := by omega
        by_cases hjt : j + 1 < te
        · have lj : (j : Int) < (te : Int) - 1 := by omega
          obtain ⟨j', hj'⟩ : ∃ k, k = j + 1 := ⟨_, rfl⟩
          have hr := nats_inj hb1 (HN1.out.symm.trans (HIN.out j hj1 hjt))
          rw [show ints [j + 1] = [(j' : Int)] by rw [hj']; rfl] at hr
          subst hr
          have hjj : (j : Int) + 1 = (j' : Int) := by omega
          obtain ⟨ga, oa, eA⟩ := C_plain C1 (by simp) (by decide)
          subst eA
          have d1 := C_scalar (h1 := fun _ => rfl) (Kd.C_below C1 (below_step HBC.out HD.out)) 0 0 (by simp)
          rw [show [(j' : Int)].length = 1 from rfl] at y1
          rw [show [(j' : Int)].getD 0 0 = (j' : Int) from rfl, Nat.add_zero] at d1
          have p1 := HCX.out wr HD.out j' (by rw [HM.out]; omega)
          have hpf : p j' = false := by
            rw [← Bool.not_eq_true, ← HPE.out]
            intro h
            have := cm_bg h
            rw [hj', HNB.out (j + 1) (by omega) hjt] at this
            cases this
          rw [hpf] at p1
          have lm : (j' : Int) < m := by have := HM.out; omega
          have HJJ := hid (show fr ≤ j' ∧ j' + 1 ≤ te by omega)
          clear hpf hb1 C1 hj' hjt
          go_wp2_with fail
          go_roundw
          case rel => exact ⟨j', HJJ.out.1, HJJ.out.2, by go_num, HD⟩
          case measure => have := HJJ.out; simp [intOf]; omega
        · have hte : (te : Int) - 1 = (j : Int) := by omega
          have lj : ¬ ((j : Int) < j) := by omega
          by_cases hti : te < i
          · have lti : (te : Int) < i := by omega
            have HTE := hid (show p te = true ∨ nats r1 ≠ [te] by
              rw [← HPE.out, ← HN1.out, show j = te - 1 by omega]
              refine bg_cm ?_ (by omega)
              rw [HTB.out]
              refine (from_lt ?_).2.1
              rw [HMN.out]
              apply Classical.byContradiction
              intro h
              have h9 := HTB.out
              rw [from_out (by rw [HMN.out]; omega), HCN.out] at h9
              omega)
            have ltm : (te : Int) < m := by have := HM.out; omega
            have p1 := HCX.out wr HD.out te (by rw [HM.out]; omega)
            have c1 := Kd.C_below C1 (below_step HBC.out HD.out)
            have HBM2 := hid (show b < mN from hbm)
            clear hjt C1 HN1 hb1
            rcases r1 with _ | ⟨z, _ | ⟨z2, zs⟩⟩
            · rw [show ([] : List Int).length = 0 from rfl] at y1
              clear HTE c1
              go_wp2_with fail
              go_roundw
              case rel => exact ⟨b + 1, HBM.out, by rw [← HTB.out], by go_num, HD⟩
              case measure => have := HBM2.out; simp [intOf]; omega
            · obtain ⟨ga, oa, eA⟩ := C_plain c1 (by simp) (by decide)
              subst eA
              have d1 := C_scalar (h1 := fun _ => rfl) c1 0 0 (by simp)
              rw [show [z].length = 1 from rfl] at y1
              rw [show [z].getD 0 0 = z from rfl, Nat.add_zero] at d1
              clear c1
              cases hz : (z == (te : Int))
              · clear HTE
                go_wp2_with fail
                go_roundw
                case rel => exact ⟨b + 1, HBM.out, by rw [← HTB.out], by go_num, HD⟩
                case measure => have := HBM2.out; simp [intOf]; omega
              · obtain rfl : z = (te : Int) := by simpa using hz
                rw [show p te = true from HTE.out.resolve_right (by simp [nats])] at p1
                clear HTE hz
                go_wp2_with fail
                go_roundw
                case rel => exact ⟨b + 1, HBM.out, by rw [← HTB.out], by go_num, HD⟩
                case measure => have := HBM2.out; simp [intOf]; omega
            · obtain ⟨kk, hkk⟩ : ∃ k, (z :: z2 :: zs).length = k := ⟨_, rfl⟩
              have hk1 : ((kk : Int) == 1) = false := by
                rw [List.length_cons, List.length_cons] at hkk
                simp; omega
              rw [hkk] at y1
              clear HTE c1 hkk
              go_wp2_with fail
              go_roundw
              case rel => exact ⟨b + 1, HBM.out, by rw [← HTB.out], by go_num, HD⟩
              case measure => have := HBM2.out; simp [intOf]; omega
          · have lti : ¬ ((te : Int) < i) := by omega
            have HBM2 := hid (show b < mN from hbm)
            clear hjt C1 HN1 hb1 y1
            go_wp2_with fail
            go_roundw
            case rel => exact ⟨b + 1, HBM.out, by rw [← HTB.out], by go_num, HD⟩
            case measure => have := HBM2.out; simp [intOf]; omega
      · obtain rfl : b = mN := by omega
        have e : fromB cd b = i := by rw [from_out (by rw [HMN.out]; exact Nat.le_refl _), HCN.out]
        rw [e]
        have lb : ¬ ((b : Int) < b) := by omega
        go_wp2_with fail
        go_ret
        exact ⟨by simp, below_step HBC.out HR.out⟩
  · have HE1 := hid (fun (W : World) (hW : Below w.heap.size w W) => of_err (c1 := c1) (Kd.C_below HC1.out hW) (Kd.C_below HC2.out hW) HCC.out (by rw [hz]; exact hz0))
    rw [hn, hT, hz] at HE1
    rw [hn, hT]
    have b1 : (z != 0) = true := by simp [hz0]
    clear hn hT hz hz0
    go_enter Try.func4, Try.ntmps4
    go_upto_region 3 with (go_at_call 9; refine HWK.out.mono ?_; rintro e w1 ⟨rfl, hB⟩; have HB1 := hid hB; clear hB)
    go_wp2_with (go_at_call 20; refine (HE1.out _ HB1.out).mono ?_; rintro e w2 ⟨rfl, hB⟩; have HB2 := hid (below_step HB1.out hB); clear hB)
    go_ret
    exact ⟨rfl, HB2.out⟩
set_option maxRecDepth 100000 in
theorem lifted (os : Os) (started : os.Started) (H : Type) (enc : TypeId × Value → H) :
    ReturnsInHanded {} Try.checked os 4 .any (Rows.blocksJoinSpec.pre6 enc Try.prog Try.f4 Rows.blocksJoinRow.domain false)
      (Rows.blocksJoinSpec.post enc Try.prog Try.f4 false true false false) := by
  refine returnsInHanded_of_change_sized (C := Try.checked) own started (by kernel_rfl) Try.func4
    (ChangeSpec.witness6 (enc := enc) (C := Try.checked) false ⟨#[], #[.slice none 0 0, .slice none 0 0], []⟩ 8 (by kernel_rfl) (by kernel_rfl) (by kernel_rfl) (by kernel_rfl)) ?_
  intro W base args ds gs before hval0 hW hcnd hsz0 _
  have hval : ∀ (j : Nat) t v, Try.f4.params[j]? = some t → args[j]? = some v → Value.okWide Try.prog W .any base t v := hval0
  have hsz : (DataW.weightsEach Try.prog (Try.f4.params.toList ++ Rows.blocksJoinSpec.plain.varTypes Try.prog) (ds ++ gs)).all (· ≤ reachBytes) = true := hsz0
  have hW' := hW
  obtain ⟨p, q, hA0, hV, rfl, hfz, hnd⟩ := hW
  have hA : DataW.TrodAll enc Try.prog W 0 (fun _ => true) true Try.f4.params.toList args.toList ds p := hA0
  rw [Try.params4] at hA hval hsz
  obtain ⟨v0, vs0, d0, ds0, p0, q0, hargs, rfl, rfl, h0, r0⟩ := trodAll_cons hA
  obtain ⟨v1, vs1, d1, ds1, p1, q1, rfl, rfl, rfl, h1, r1⟩ := trodAll_cons r0
  obtain ⟨rfl, rfl, rfl⟩ := trodAll_nil r1
  obtain rfl : args = #[v0, v1] := by cases args; simp_all
  obtain ⟨rfl, rfl⟩ := trodVars_none hV
  have y0 := h0
  obtain ⟨A0, l0, c0, rfl, k0, C0, g0⟩ := openNss (hval 0 40 v0 rfl rfl) h0 (Op.weights_of hsz (j := 0) rfl rfl)
  have y1 := h1
  obtain ⟨A1, l1, c1, rfl, k1, C1, g1⟩ := openNss (hval 1 40 v1 rfl rfl) h1 (Op.weights_of hsz (j := 1) rfl rfl)
  clear hA0 hval0 hsz0 hsz
  refine (walk A0 l0 c0 A1 l1 c1 W k0 C0 g0 k1 C1 g1).mono fun e W' ⟨he, bel⟩ => ?_
  subst he
  exact ⟨_, rfl, _, _, _, [], _, [], hW', trodAll_mk1 (shut_bool Try.underlying4 _), (trodAll_cons_mk (Below.trod laidOut (by kernel_rfl) (of_decide_eq_true (by kernel_rfl)) y0 bel (Op.trod_places y0)) (trodAll_cons_mk (Below.trod laidOut (by kernel_rfl) (of_decide_eq_true (by kernel_rfl)) y1 bel (Op.trod_places y1)) trodAll_mk0)), rfl, bel.frame _, fun h => by cases h⟩

theorem over : Rows.BlocksJoinSaid :=
  OpenClaim.holds_of_wide 4 Try.f4 rfl rfl rfl rfl rfl rfl rfl ⟨rfl, rfl, rfl, rfl, rfl⟩ rfl rfl rfl rfl rfl (by kernel_rfl) Try.func4 (by kernel_rfl)
    (of_decide_eq_true (by kernel_rfl)) (by unfold Func.isWrapper; first | (rw [if_pos (by decide +kernel)]; kernel_rfl) | (rw [if_neg (by decide +kernel)]; exact ⟨rfl, rfl⟩))
    (fun os started H enc _ => lifted os started H enc)

end Go.Proofs.Ythjjkpkohhmgcaa.blocksJoin

/- The law BlocksOrder: the order has each block that is reached once, the block 0 first; each block stands ahead of those it goes to, but for ways back. -/
import Derived.Test.YthjjkpkohhmgcaaYe
namespace Go.Proofs.Ythjjkpkohhmgcaa
open Go.RowKit Go.Proofs.YthjjkpkohhmgcaaW.PrintWords Go.Proofs.Ythjjkpkohhmgcaa.Dom

theorem order_err {A : Option Addr} {c : Nat} {L : List Bk} {w : World} (hL : kB.C w A L.length L) (hb : L.length * 48 ≤ 140737488355328) (hz : checkE L ≠ 0) : Calls Try.prog 12 #[.slice A L.length c] w fun e w' => e = .returned (.tuple #[.slice none 0 0, .int .i64 (checkE L)]) ∧ Below w.heap.size w w' := by
  refine (order_any A c L w hL hb).mono ?_
  rintro e w' ⟨hB, ⟨_, rfl⟩ | ⟨hM, _⟩⟩
  · exact ⟨rfl, hB⟩
  · exact absurd ((checkE_may L).2 hM) hz
theorem order_ok {A : Option Addr} {c : Nat} {L : List Bk} {w : World} (hL : kB.C w A L.length L) (hb : L.length * 48 ≤ 140737488355328) (hz : checkE L = 0) : Calls Try.prog 12 #[.slice A L.length c] w fun e w' => ∃ A1 c1, e = .returned (.tuple #[.slice A1 (lookS L).done.reverse.length c1, .int .i64 0]) ∧ kI.C w' A1 (lookS L).done.reverse.length (ints (lookS L).done.reverse) ∧ Below w.heap.size w w' := by
  refine (order_any A c L w hL hb).mono ?_
  rintro e w' ⟨hB, ⟨h, _⟩ | ⟨_, A1, c1, rfl, h⟩⟩
  · exact absurd hz h
  · rw [List.length_reverse]; exact ⟨A1, c1, rfl, h, hB⟩
theorem back_err {A : Option Addr} {c : Nat} {L : List Bk} {w : World} (hL : kB.C w A L.length L) (hb : L.length * 48 ≤ 140737488355328) (hz : checkE L ≠ 0) : Calls Try.prog 14 #[.slice A L.length c] w fun e w' => e = .returned (.tuple #[.slice none 0 0, .int .i64 (checkE L)]) ∧ Below w.heap.size w w' := by
  refine (back_any A c L w hL hb).mono ?_
  rintro e w' ⟨hB, ⟨_, rfl⟩ | ⟨hM, _⟩⟩
  · exact ⟨rfl, hB⟩
  · exact absurd ((checkE_may L).2 hM) hz
theorem back_ok {A : Option Addr} {c : Nat} {L : List Bk} {w : World} (hL : kB.C w A L.length L) (hb : L.length * 48 ≤ 140737488355328) (hz : checkE L = 0) : Calls Try.prog 14 #[.slice A L.length c] w fun e w' => ∃ A1 c1 bk, e = .returned (.tuple #[.slice A1 bk.length c1, .int .i64 0]) ∧ kW.C w' A1 bk.length bk ∧ IsBack L bk ∧ Below w.heap.size w w' := by
  refine (back_any A c L w hL hb).mono ?_
  rintro e w' ⟨hB, ⟨h, _⟩ | ⟨_, A1, c1, bk, rfl, h1, h2⟩⟩
  · exact absurd hz h
  · exact ⟨A1, c1, bk, rfl, h1, h2, hB⟩
end Go.Proofs.Ythjjkpkohhmgcaa
namespace Go.Proofs.Ythjjkpkohhmgcaa.blocksOrder
open Go.ChangeShapes Go.WideShapes Go.ChangeAt Go.RowKit
open Go.Proofs.Ythjjkpkohhmgcaa Go.Proofs.YthjjkpkohhmgcaaW.PrintWords Go.Proofs.Ythjjkpkohhmgcaa.Dom

set_option maxRecDepth 100000 in
set_option maxHeartbeats 8000000 in
theorem walk (A : Option Addr) (l : List Bk) (c : Nat) (w : World) (_ : l.length ≤ c) (hC : kB.C w A l.length l) (hg : gBks l) : Calls Try.prog 6 #[.slice A l.length c] w fun e w' => e = .returned (.bool true) ∧ Below w.heap.size w w' := by
  have hb := bks_len hg
  have HWK := hid (works_any w)
  have HC := hid hC
  have HB := hid hb
  obtain ⟨n, hn⟩ : ∃ n, l.length = n := ⟨_, rfl⟩
  have HN := hid hn
  by_cases h100 : 100 < n
  · have l1 : (100 : Int) < n := by omega
    rw [hn]
    clear hC hg hn
    go_enter Try.func6, Try.ntmps6
    go_wp2_with (go_at_call 9; refine HWK.out.mono ?_; rintro e w1 ⟨rfl, hB⟩; have HB1 := hid hB; clear hB)
    go_ret
    exact ⟨rfl, HB1.out⟩
  have l1 : ¬ ((100 : Int) < n) := by omega
  obtain ⟨z, hz⟩ : ∃ z, checkE l = z := ⟨_, rfl⟩
  by_cases hz0 : z = 0
  · subst hz0
    have HO := hid (fun (W : World) (hW : Below w.heap.size w W) => order_ok (c := c) (Kd.C_below HC.out hW) HB.out hz)
    have HK := hid (fun (W : World) (hW : Below w.heap.size w W) => back_ok (c := c) (Kd.C_below HC.out hW) HB.out hz)
    have HM := hid ((checkE_may l).1 hz)
    have HT : Hid (Look.Told (gB l) l.length (lookS l)) := Look.look_law HM.out.lt HM.out.pos (Nat.le_refl _)
    have HFR := hid (fun (W : World) (hW : Below w.heap.size w W) => from_any A c l W l.length (-1) (Kd.C_below HC.out hW) HM.out (.inl ⟨rfl, Nat.le_refl _⟩))
    rw [hn] at HO HK HFR HC ⊢
    obtain ⟨O, hO⟩ : ∃ O, (lookS l).done.reverse = O := ⟨_, rfl⟩
    rw [hO] at HO
    have HOE := hid hO
    have HOM := hid (show ∀ x, x ∈ O ↔ x ∈ (lookS l).done by intro x; rw [← hO]; exact List.mem_reverse)
    have HON := hid (show O.Nodup by rw [← hO]; exact List.pairwise_reverse.2 (HT.out.once.imp (fun h => Ne.symm h)))
    have HOL := hid (show ∀ x ∈ O, x < n by intro x hx; rw [← hn]; exact HT.out.lt x ((HOM.out x).1 hx))
    obtain ⟨m, hm⟩ : ∃ m, O.length = m := ⟨_, rfl⟩
    rw [hm] at HO
    have HOn := hid hm
    have hmk := mk_ints n (by omega)
    have hmn : m ≤ n := by rw [← hm]; exact nodup_len n O HON.out HOL.out
    have hn0 : 0 < n := by rw [← hn]; exact HM.out.pos
    obtain ⟨lb, lo, eA⟩ := C_plain HC.out hn0 (by decide)
    subst eA
    clear hC hg hn hz hb hO hm
    go_enter Try.func6, Try.ntmps6
    go_upto_region 3 with (go_at_call 9; refine HWK.out.mono ?_; rintro e w1 ⟨rfl, hB⟩; have HB1 := hid hB; clear hB)
    go_upto_region 6 with (go_at_call 12; refine (HO.out _ HB1.out).mono ?_; rintro e w2 ⟨A1, c1, rfl, hC, hB⟩; have HO2 := hid hC; have HB2 := hid (below_step HB1.out hB); clear hC hB)
    go_upto_region 7 with (go_at_call 14; refine (HK.out _ HB2.out).mono ?_; rintro e w3 ⟨A2, c2, bk, rfl, hC, hI, hB⟩; have HK3 := hid hC; have HI3 := hid hI; have HO3 := hid (Kd.C_below HO2.out hB); have HB3 := hid (below_step HB2.out hB); clear hC hI hB)
    go_upto_region 10 with (go_at_call 22; refine (HFR.out _ HB3.out).mono ?_; rintro e w4 ⟨gs, p, rfl, hgs, hrow, hB, hp⟩; have HP := hid hp; have HRS := hid hrow; have HGS := hid hgs; have HO4 := hid (Kd.C_below HO3.out hB); have HK4 := hid (Kd.C_below HK3.out hB); have HB4 := hid (below_step HB3.out hB); clear hgs hrow hB hp)
    clear HO HK HFR HWK HB1 HB2 HB3 HO2 HO3 HK3
    have HPO := hid (show ∀ b, p b = true ↔ b ∈ O by
      intro b
      rw [HP.out, HOM.out, HT.out.mem]
      exact ⟨av_reach, fun h => reach_av h (fun y hy e => by have := HT.out.lt y ((HT.out.mem y).2 hy); have := HN.out; omega)⟩)
    have hbm := HK4.out.2.1
    generalize hbl : bk.length = bn at *
    have HBN := hid hbl
    clear hbl HP
    have K5 := blk_new w4 (.cells (Array.replicate n (.int .i64 0)) 3)
    have HI5 := hid (show IW w4 n w4.heap.size (fun x => if x < 0 then -1 else 0) (w4.alloc (.cells (Array.replicate n (.int .i64 0)) 3)) from
      ⟨below_alloc (Below.refl _ _) _, by rw [iRow_congr (f' := fun _ => 0) (fun i _ => by rw [if_neg (by omega)]), iRow_const]; exact K5, Nat.le_refl _⟩)
    clear K5
    obtain ⟨g, hg⟩ : ∃ g, w4.heap.size = g := ⟨_, rfl⟩
    go_upto_region 12 with fail
    have HG := hid hg
    rw [hg] at HI5
    clear hg hmk
    go_loopw [9] (fun iV wr => ∃ k : Nat, k ≤ n ∧ iV = .int .i64 k ∧ Hid (IW w4 n g (fun x => if x < k then -1 else 0) wr)) (fun iV _ => n - (intOf iV).toNat)
    case atStart => exact ⟨0, by omega, rfl, HI5⟩
    obtain ⟨k, hk, rfl, HI⟩ := hrel
    clear HI5
    by_cases hkn : k < n
    · have lk : (k : Int) < n := by omega
      have c0 := HI.out.at hkn
      have f0 := blk_frozen HI.out.row k
      have HI2 := hid ((HI.out.put k (-1)).congr (f' := fun x => if x < k + 1 then -1 else 0) (fun i hi => by
        by_cases e : i = k
        · subst e; simp
        · have : i < k + 1 ↔ i < k := by omega
          simp [e, this]))
      go_wp2_with fail
      generalize World.setCell _ _ _ = w9 at *
      go_roundw
      case rel => exact ⟨k + 1, by omega, by go_num, HI2⟩
      case measure => simp [intOf]; omega
    obtain rfl : n = k := by omega
    have HI0 := hid (HI.out.congr (f' := plI O 0) (fun i hi => by rw [if_pos hi, plI_zero]))
    clear HI
    go_upto_region 16 with fail
    go_loopw [10] (fun iV wr => ∃ q : Nat, q ≤ m ∧ iV = .int .i64 q ∧ Hid (IW w4 n g (plI O q) wr)) (fun iV _ => m - (intOf iV).toNat)
    case atStart => exact ⟨0, by omega, rfl, HI0⟩
    obtain ⟨q, hq, rfl, HI⟩ := hrel
    clear HI0
    by_cases hqm : q < m
    · obtain ⟨b, hbq⟩ : ∃ b, O[q]? = some b := ⟨_, List.getElem?_eq_getElem (by rw [HOn.out]; exact hqm)⟩
      have hbn2 := HOL.out b (List.mem_of_getElem? hbq)
      obtain ⟨ba, oa, eA⟩ := C_plain HO4.out (by omega) (by decide)
      subst eA
      have d1 := C_scalar (h1 := fun _ => rfl) HO4.out 0 q (by rw [ints_len, HOn.out]; exact hqm)
      rw [show (ints O).getD q 0 = (b : Int) by simp [ints, List.getD, hbq]] at d1
      have d2 := (HI.out.below.cell (World.block_lt_of_cell? w4 _ d1)).trans d1
      have c0 := HI.out.at hbn2
      rw [plI_new HON.out hbq] at c0
      have f0 := blk_frozen HI.out.row b
      have HI2 := hid ((HI.out.put b (q : Int)).congr (fun i _ => (plI_step HON.out hbq i).symm))
      have lb : (b : Int) < n := by omega
      have lq : (q : Int) < m := by omega
      clear d1 hbq
      go_wp2_with fail
      generalize World.setCell _ _ _ = w9 at *
      go_roundw
      case rel => exact ⟨q + 1, by omega, by go_num, HI2⟩
      case measure => simp [intOf]; omega
    obtain rfl : m = q := by omega
    obtain ⟨F, hF⟩ : ∃ F : Nat → Int, F = fun x => if x ∈ O then (O.idxOf x : Int) else -1 := ⟨_, rfl⟩
    have HI0 := hid (HI.out.congr (f' := F) (fun i hi => by rw [hF, ← HOn.out, plI_all]))
    have HF1 := hid (show ∀ x, x ∈ O → F x = (plc (lookS l) x : Int) by intro x hx; rw [hF]; show (if x ∈ O then _ else _) = _; rw [if_pos hx, ← HOE.out]; rfl)
    have HF2 := hid (show ∀ x, x ∉ O → F x = -1 by intro x hx; rw [hF]; show (if x ∈ O then _ else _) = _; rw [if_neg hx])
    have HF0 := hid (show F 0 = 0 by
      rw [HF1.out 0 ((HOM.out 0).2 ((HT.out.mem 0).2 .root))]
      have := (graphOf HT.out).pl0
      show ((plc (lookS l) 0 : Nat) : Int) = 0
      rw [show plc (lookS l) 0 = 0 from this]; rfl)
    have HBK := hid (show ∀ u v : Nat, u ∈ O → v ∈ gB l u → (((u : Int), (v : Int)) ∈ bk ↔ F v ≤ F u) by
      intro u v hu hv
      have hud := (HOM.out u).1 hu
      have hvd : v ∈ O := (HOM.out v).2 ((HT.out.mem v).2 (.step ((HT.out.mem u).1 hud) hv))
      rw [HI3.out.mem, HF1.out u hu, HF1.out v hvd, show ((u : Int), (v : Int)) ∈ ways (lookS l).back ↔ (u, v) ∈ (lookS l).back from ⟨fun h => by
        obtain ⟨q, hq, e⟩ := List.mem_map.1 h
        simp only [Prod.mk.injEq] at e
        have : q = (u, v) := by ext <;> simp <;> omega
        rwa [this] at hq, fun h => List.mem_map.2 ⟨(u, v), h, rfl⟩⟩, back_place HT.out hud hv]
      omega)
    clear HI hF
    go_upto_region 22 with fail
    go_loopw [11] (fun iV wr => ∃ b : Nat, b ≤ n ∧ iV = .int .i64 b ∧ Hid (IW w4 n g F wr)) (fun iV _ => n - (intOf iV).toNat)
    case atStart => exact ⟨0, by omega, rfl, HI0⟩
    obtain ⟨b, hbn2, rfl, HI⟩ := hrel
    clear HI0
    by_cases hbn : b < n
    · have lb1 : (b : Int) < n := by omega
      have c0 := HI.out.at hbn
      have s0 : wr.cell? ⟨gs, b, none⟩ = some (.bool (p b)) := by
        have : w4.cell? ⟨gs, b, none⟩ = some (.bool (p b)) := by rw [blk_cell HRS.out, bRow_get p hbn]
        exact (HI.out.below.cell (World.block_lt_of_cell? w4 _ this)).trans this
      obtain ⟨gA, gc, _, _, e2, _, _, C2⟩ := kB_get HC.out hbn
      have HX2 := hid (fun W (hB : Below w4.heap.size w4 W) => ((below_step HB4.out hB).cell (World.block_lt_of_cell? w _ e2)).trans e2)
      have HCV := hid C2
      have HMB := hid (fun q hq => HM.out.to (u := b) (q := q) (by rw [HN.out]; exact hbn) hq)
      rw [HN.out] at HMB
      have hgl : (l.getD b zBk).goes.length ≤ 20000 := (HM.out.at (by rw [HN.out]; exact hbn)).1
      have HS0 := hid (fun W (hB : Below w4.heap.size w4 W) => (show W.cell? ⟨gs, b, none⟩ = some (.bool (p b)) by
        have : w4.cell? ⟨gs, b, none⟩ = some (.bool (p b)) := by rw [blk_cell HRS.out, bRow_get p hbn]
        exact (hB.cell (World.block_lt_of_cell? w4 _ this)).trans this))
      clear e2 C2
      generalize (l.getD b zBk).goes = gl at *
      generalize hgn : gl.length = gn at *
      have HGN := hid hgn
      clear hgn
      have hdec : (decide (0 ≤ F b) == p b) = true := by
        by_cases hO : b ∈ O
        · rw [HF1.out b hO, (HPO.out b).2 hO]; simp
        · have : p b = false := by rw [← Bool.not_eq_true, HPO.out]; exact hO
          rw [HF2.out b hO, this]; rfl
      go_wp2_with fail
      go_quiet (fail)
      have HI1 := hid (HI.out.step (below_drewN' wr nq))
      clear c0 s0 HI
      go_wp2_with fail
      clear hdec
      generalize World.drewN _ _ = w7 at *
      go_loopw [12] (fun kV wr => ∃ k : Nat, k ≤ gn ∧ kV = .int .i64 k ∧ Hid (IW w4 n g F wr)) (fun kV _ => gn - (intOf kV).toNat)
      case atStart => exact ⟨0, by omega, rfl, HI1⟩
      obtain ⟨k, hk, rfl, HJ⟩ := hrel
      clear HI1
      have x2 := HX2.out wr HJ.out.below
      have s0 := HS0.out wr HJ.out.below
      by_cases hbO : b ∈ O
      case neg =>
        have HE := hid (show p b = false by rw [← Bool.not_eq_true, HPO.out]; exact hbO)
        rw [HE.out] at s0
        by_cases hkg : k < gn
        case' pos => have lk : (k : Int) < gn := by omega
        case' neg => have lk : ¬ ((k : Int) < gn) := by omega
        all_goals
          go_wp2_with fail
          go_roundw
          case rel => exact ⟨b + 1, by omega, by go_num, HJ⟩
          case measure => simp [intOf]; omega
      have HBO := hid hbO
      rw [(HPO.out b).2 hbO] at s0
      by_cases hkg : k < gn
      case neg =>
        have lk : ¬ ((k : Int) < gn) := by omega
        go_wp2_with fail
        go_roundw
        case rel => exact ⟨b + 1, by omega, by go_num, HJ⟩
        case measure => simp [intOf]; omega
      have lk : (k : Int) < gn := by omega
      have HK1 : Hid (k + 1 ≤ gn) := hkg
      obtain ⟨v, hv, hgv, hcv⟩ := HMB.out k hkg
      have HVG := hid (List.mem_of_getElem? hgv)
      obtain ⟨ga, oa, eA⟩ := C_plain HCV.out (by omega) (by decide)
      subst eA
      have d1 := C_scalar (h1 := fun _ => rfl) HCV.out 0 k (by rw [HGN.out]; exact hkg)
      rw [hcv] at d1
      have HD1 := hid (fun W (hB : Below w4.heap.size w4 W) => ((below_step HB4.out hB).cell (World.block_lt_of_cell? w _ d1)).trans d1)
      clear d1 hcv hgv
      go_upto_region 31 with fail
      clear x2 s0
      go_loopw [13, 14] (fun sV iV wr => ∃ q : Nat, q ≤ bn ∧ iV = .int .i64 q ∧ sV = .bool ((bk.take q).any (fun t => t.1 == (b : Int) && t.2 == (v : Int))) ∧ Hid (IW w4 n g F wr)) (fun _ iV _ => bn - (intOf iV).toNat)
      case atStart => exact ⟨0, by omega, rfl, rfl, HJ⟩
      obtain ⟨q, hq, rfl, rfl, HQ⟩ := hrel
      clear HJ
      have x2 := HX2.out wr HQ.out.below
      have d1 := HD1.out wr HQ.out.below
      by_cases hqb : q < bn
      · obtain ⟨b2, o2, eA⟩ := C_plain HK4.out (by omega) (by decide)
        subst eA
        obtain ⟨ad, cc, e, _, hK, hc0⟩ := Kd.C_get (Kd.C_below HK4.out HQ.out.below) (0, 0) (q : Int) (by omega) (by omega)
        cases e
        rw [Int.toNat_natCast] at hK hc0
        obtain ⟨t1, t2, ht⟩ : ∃ t1 t2, bk.getD q (0, 0) = (t1, t2) := ⟨_, _, rfl⟩
        rw [ht] at hK
        have hcc := kW_open hK
        subst hcc
        have z0 := hc0 0 _ rfl
        have z1 := hc0 1 _ rfl
        rw [add_off, show o2 + (q * kW.sz + 0) = o2 + q * 2 from rfl] at z0
        rw [add_off, show o2 + (q * kW.sz + 1) = o2 + q * 2 + 1 from rfl] at z1
        have HTQ := hid (show bk.take (q + 1) = bk.take q ++ [(t1, t2)] by
          have hql : q < bk.length := by rw [HBN.out]; exact hqb
          rw [List.take_add_one, List.getElem?_eq_getElem hql]
          rw [List.getD_eq_getElem?_getD, List.getElem?_eq_getElem hql] at ht
          rw [← ht]; rfl)
        have lq : (q : Int) < bn := by omega
        have hway := fun W => run_eql_way W t1 t2 (b : Int) (v : Int)
        clear ht hK hc0
        cases hsb : (bk.take q).any (fun t => t.1 == (b : Int) && t.2 == (v : Int))
        · cases h1 : (t1 == (b : Int) && t2 == (v : Int))
          all_goals
            have HSB := hid hsb
            have HT1 := hid h1
            clear hsb
            go_wp2_with fail
            go_quiet (fail)
            go_wp2_with fail
            go_roundw
            case rel => exact ⟨q + 1, by omega, by go_num, by rw [HTQ.out, List.any_append, HSB.out]; simp only [List.any_cons, List.any_nil, Bool.or_false, Bool.false_or]; rw [HT1.out], HQ.out.step (below_drewN' wr nq)⟩
            case measure => simp [intOf]; omega
        · have HSB := hid hsb
          clear hsb
          go_wp2_with fail
          go_quiet (fail)
          go_wp2_with fail
          go_roundw
          case rel => exact ⟨q + 1, by omega, by go_num, by rw [HTQ.out, List.any_append, HSB.out]; rfl, HQ.out.step (below_drewN' wr nq)⟩
          case measure => simp [intOf]; omega
      · obtain rfl : bn = q := by omega
        have HVO : Hid (v ∈ O) := (HOM.out v).2 ((HT.out.mem v).2 (.step ((HT.out.mem b).1 ((HOM.out b).1 HBO.out)) HVG.out))
        have HAN := hid (show (bk.take bn).any (fun t => t.1 == (b : Int) && t.2 == (v : Int)) = decide (F v ≤ F b) by
          rw [List.take_of_length_le (by rw [HBN.out]; exact Nat.le_refl _), Bool.eq_iff_iff, List.any_eq_true, decide_eq_true_eq, ← HBK.out b v HBO.out HVG.out]
          constructor
          · rintro ⟨⟨t1, t2⟩, ht, h⟩
            simp only [Bool.and_eq_true, beq_iff_eq] at h
            rw [← h.1, ← h.2]; exact ht
          · intro h; exact ⟨_, h, by simp⟩)
        rw [HAN.out]
        have y1 := HQ.out.at hv
        have y2 := HQ.out.at hbn
        have lv : (v : Int) < n := by omega
        have lqb : ¬ ((bn : Int) < bn) := by omega
        cases hsb : decide (F v ≤ F b)
        case' true => have hle : F v ≤ F b := of_decide_eq_true hsb
        case' false => have hle : ¬ F v ≤ F b := of_decide_eq_false hsb
        all_goals
          clear hsb
          go_wp2_with fail
          go_quiet (fail)
          go_wp2_with fail
          go_roundw
          case rel => exact ⟨k + 1, HK1.out, by go_num, HQ.out.step (below_drewN' _ _)⟩
          case measure => simp [intOf]; omega
    obtain rfl : n = b := by omega
    have HLX := hid HI3.out.sorted
    have HZ := hid (show ∀ (W : World), Below w4.heap.size w4 W → ∀ i, i < bn → ∃ (b2 o2 u v : Nat), A2 = some ⟨b2, o2, none⟩ ∧ bk[i]? = some ((u : Int), (v : Int)) ∧ W.cell? ⟨b2, o2 + i * 2, none⟩ = some (.int .i64 (u : Int)) ∧ W.cell? ⟨b2, o2 + i * 2 + 1, none⟩ = some (.int .i64 (v : Int)) ∧ u ∈ O ∧ u < n ∧ (v : Int) ∈ (l.getD u zBk).goes from by
      intro W hB i hi
      obtain ⟨b2, o2, eA⟩ := C_plain HK4.out (by omega) (by decide)
      obtain ⟨ad, cc, e, _, hK, hc0⟩ := Kd.C_get (Kd.C_below HK4.out hB) (0, 0) (i : Int) (by omega) (by omega)
      rw [eA] at e
      cases e
      rw [Int.toNat_natCast] at hK hc0
      have hil : i < bk.length := by rw [HBN.out]; exact hi
      have hcc := kW_open hK
      subst hcc
      have hmem := (HI3.out.mem _).1 (List.getElem_mem hil)
      obtain ⟨⟨u, v⟩, hq, e⟩ := List.mem_map.1 hmem
      obtain ⟨h1, h2⟩ := HT.out.only _ hq
      have hud : u ∈ O := (HOM.out u).2 h2
      have hun := HOL.out u hud
      rw [List.getD_eq_getElem?_getD, List.getElem?_eq_getElem hil, Option.getD_some, ← e] at hc0
      have z0 := hc0 0 _ rfl
      have z1 := hc0 1 _ rfl
      rw [add_off, show o2 + (i * kW.sz + 0) = o2 + i * 2 from rfl] at z0
      rw [add_off, show o2 + (i * kW.sz + 1) = o2 + i * 2 + 1 from rfl] at z1
      refine ⟨b2, o2, u, v, eA, by rw [List.getElem?_eq_getElem hil, ← e], z0, z1, hud, hun, ?_⟩
      have h3 : v ∈ (l.getD u zBk).goes.map Int.toNat := h1
      obtain ⟨k, hk, hkv⟩ := List.mem_map.1 h3
      have h4 := ((HM.out.at (u := u) (by rw [HN.out]; exact hun)).2 k hk).1
      rw [show (v : Int) = k by omega]
      exact hk)
    go_upto_region 37 with fail
    go_loopw [15] (fun iV wr => ∃ q : Nat, q ≤ bn ∧ iV = .int .i64 q ∧ Hid (IW w4 n g F wr)) (fun iV _ => bn - (intOf iV).toNat)
    case atStart => exact ⟨0, by omega, rfl, HI⟩
    obtain ⟨q, hq, rfl, HQ⟩ := hrel
    clear HI
    by_cases hqb : q < bn
    · have lq : (q : Int) < bn := by omega
      have hq1 : q + 1 ≤ bn := hqb
      obtain ⟨b2, o2, u, v, eA, hbq, z0, z1, huO, hun, hvg⟩ := HZ.out wr HQ.out.below q hqb
      subst eA
      have HBQ := hid hbq
      have HUO := hid huO
      have HVG := hid hvg
      clear hbq huO hvg
      go_wp2_with fail
      go_quiet (fail)
      have HQ2 := hid (HQ.out.step (below_drewN' wr nq))
      clear z0 z1 HQ
      go_upto_region 40 with fail
      generalize World.drewN _ _ = w9 at *
      have s0 : w9.cell? ⟨gs, u, none⟩ = some (.bool true) := by
        have : w4.cell? ⟨gs, u, none⟩ = some (.bool true) := by rw [blk_cell HRS.out, bRow_get p hun, (HPO.out u).2 HUO.out]
        exact (HQ2.out.below.cell (World.block_lt_of_cell? w4 _ this)).trans this
      obtain ⟨gA, gc, _, _, e2, _, _, C2⟩ := kB_get HC.out hun
      have x2 := ((below_step HB4.out HQ2.out.below).cell (World.block_lt_of_cell? w _ e2)).trans e2
      have HHS := hid (fun (W : World) (hB : Below w4.heap.size w4 W) => has_any gA gc _ _ (v : Int) W (Kd.C_below C2 (below_step HB4.out hB)))
      rw [List.contains_iff_mem.2 HVG.out] at HHS
      have lu : (u : Int) < n := by omega
      clear e2 C2
      generalize (l.getD u zBk).goes.length = gn at *
      by_cases hq0 : 0 < q
      · obtain ⟨j, hj⟩ : ∃ j, q = j + 1 := ⟨q - 1, by omega⟩
        have hqj : (q : Int) - 1 = (j : Int) := by omega
        have HJ := hid hj
        have HZJ := hid (fun (W : World) (hB : Below w4.heap.size w4 W) => HZ.out W hB j (by omega))
        obtain ⟨_, _, u', v', eA', hbj, _⟩ := HZJ.out _ HQ2.out.below
        have hlx : LexW ((u' : Int), (v' : Int)) ((u : Int), (v : Int)) := by
          have h1 := (List.getElem?_eq_some_iff.1 hbj)
          have h2 := (List.getElem?_eq_some_iff.1 HBQ.out)
          have := List.pairwise_iff_getElem.1 HLX.out j q h1.1 h2.1 (by omega)
          rw [h1.2, h2.2] at this
          exact this
        have HZK := hid (show ∀ (W : World), Below w4.heap.size w4 W → W.cell? ⟨b2, o2 + j * 2, none⟩ = some (.int .i64 (u' : Int)) ∧ W.cell? ⟨b2, o2 + j * 2 + 1, none⟩ = some (.int .i64 (v' : Int)) from by
          intro W hB
          obtain ⟨b3, o3, u3, v3, e3, hb3, hz0, hz1, _⟩ := HZJ.out W hB
          rw [hbj] at hb3
          simp only [Option.some.injEq, Prod.mk.injEq] at hb3 e3
          obtain ⟨q1, q2⟩ := hb3
          injection e3 with e4 e5
          subst e4 e5
          rw [q1, q2]
          exact ⟨hz0, hz1⟩)
        have lj : (j : Int) < bn := by omega
        have lj0 : (0 : Int) < q := by omega
        clear hbj eA' HZJ hj hq0
        unfold LexW at hlx
        simp only at hlx
        by_cases hlt : (u' : Int) < u
        · have b1 : ¬ ((u : Int) < u') := by omega
          have b2' : ((u : Int) == (u' : Int)) = false := by simp; omega
          clear hlx hlt
          go_wp2_with (go_at_call 21; refine (HHS.out _ HQ2.out.below).mono ?_; rintro e w10 ⟨rfl, hB⟩; have HQ3 := hid (HQ2.out.step hB); clear hB; obtain ⟨k0, k1⟩ := HZK.out _ HQ3.out.below)
          go_roundw
          case rel => exact ⟨q + 1, hq1, by go_num, HQ3⟩
          case measure => simp [intOf]; omega
        · have b1 : ¬ ((u : Int) < u') := by omega
          have b2' : ((u : Int) == (u' : Int)) = true := by simp; omega
          have b3 : ¬ ((v : Int) ≤ v') := by omega
          clear hlx hlt
          go_wp2_with (go_at_call 21; refine (HHS.out _ HQ2.out.below).mono ?_; rintro e w10 ⟨rfl, hB⟩; have HQ3 := hid (HQ2.out.step hB); clear hB; obtain ⟨k0, k1⟩ := HZK.out _ HQ3.out.below)
          go_roundw
          case rel => exact ⟨q + 1, hq1, by go_num, HQ3⟩
          case measure => simp [intOf]; omega
      · have lq0 : ¬ ((0 : Int) < q) := by omega
        go_wp2_with (go_at_call 21; refine (HHS.out _ HQ2.out.below).mono ?_; rintro e w10 ⟨rfl, hB⟩; have HQ3 := hid (HQ2.out.step hB); clear hB)
        go_roundw
        case rel => exact ⟨q + 1, hq1, by go_num, HQ3⟩
        case measure => simp [intOf]; omega
    · obtain rfl : bn = q := by omega
      have y0 := HQ.out.at hn0
      rw [HF0.out] at y0
      have l0 : (0 : Int) < n := by omega
      go_wp2_with fail
      go_ret
      exact ⟨rfl, HB4.out.trans (HQ.out.below.mono HB4.out.size)⟩
  · have HE1 := hid (fun (W : World) (hW : Below w.heap.size w W) => order_err (c := c) (Kd.C_below HC.out hW) HB.out (by rw [hz]; exact hz0))
    have HE2 := hid (fun (W : World) (hW : Below w.heap.size w W) => back_err (c := c) (Kd.C_below HC.out hW) HB.out (by rw [hz]; exact hz0))
    rw [hn, hz] at HE1 HE2
    rw [hn]
    have b1 : (z != 0) = true := by simp [hz0]
    clear hC hg hn hz hb hz0
    go_enter Try.func6, Try.ntmps6
    go_upto_region 3 with (go_at_call 9; refine HWK.out.mono ?_; rintro e w1 ⟨rfl, hB⟩; have HB1 := hid hB; clear hB)
    go_upto_region 6 with (go_at_call 12; refine (HE1.out _ HB1.out).mono ?_; rintro e w2 ⟨rfl, hB⟩; have HB2 := hid (below_step HB1.out hB); clear hB)
    go_wp2_with (go_at_call 14; refine (HE2.out _ HB2.out).mono ?_; rintro e w3 ⟨rfl, hB⟩; have HB3 := hid (below_step HB2.out hB); clear hB)
    go_ret
    exact ⟨rfl, HB3.out⟩
set_option maxRecDepth 100000 in
theorem lifted (os : Os) (started : os.Started) (H : Type) (enc : TypeId × Value → H) :
    ReturnsInHanded {} Try.checked os 6 .any (Rows.blocksOrderSpec.pre6 enc Try.prog Try.f6 Rows.blocksOrderRow.domain false)
      (Rows.blocksOrderSpec.post enc Try.prog Try.f6 false true false false) := by
  refine returnsInHanded_of_change_sized (C := Try.checked) own started (by kernel_rfl) Try.func6
    (ChangeSpec.witness6 (enc := enc) (C := Try.checked) false ⟨#[], #[.slice none 0 0], []⟩ 8 (by kernel_rfl) (by kernel_rfl) (by kernel_rfl) (by kernel_rfl)) ?_
  intro W base args ds gs before hval0 hW hcnd hsz0 _
  have hval : ∀ (j : Nat) t v, Try.f6.params[j]? = some t → args[j]? = some v → Value.okWide Try.prog W .any base t v := hval0
  have hsz : (DataW.weightsEach Try.prog (Try.f6.params.toList ++ Rows.blocksOrderSpec.plain.varTypes Try.prog) (ds ++ gs)).all (· ≤ reachBytes) = true := hsz0
  have hW' := hW
  obtain ⟨p, q, hA0, hV, rfl, hfz, hnd⟩ := hW
  have hA : DataW.TrodAll enc Try.prog W 0 (fun _ => true) true Try.f6.params.toList args.toList ds p := hA0
  rw [Try.params6] at hA hval hsz
  obtain ⟨v0, vs0, d0, ds0, p0, q0, hargs, rfl, rfl, h0, r0⟩ := trodAll_cons hA
  obtain ⟨rfl, rfl, rfl⟩ := trodAll_nil r0
  obtain rfl : args = #[v0] := by cases args; simp_all
  obtain ⟨rfl, rfl⟩ := trodVars_none hV
  have y0 := h0
  obtain ⟨A0, l0, c0, rfl, k0, C0, g0⟩ := openBks (hval 0 22 v0 rfl rfl) h0 (Op.weights_of hsz (j := 0) rfl rfl)
  clear hA0 hval0 hsz0 hsz
  refine (walk A0 l0 c0 W k0 C0 g0).mono fun e W' ⟨he, bel⟩ => ?_
  subst he
  exact ⟨_, rfl, _, _, _, [], _, [], hW', trodAll_mk1 (shut_bool Try.underlying4 _), (trodAll_cons_mk (Below.trod laidOut (by kernel_rfl) (of_decide_eq_true (by kernel_rfl)) y0 bel (Op.trod_places y0)) trodAll_mk0), rfl, bel.frame _, fun h => by cases h⟩

theorem over : Rows.BlocksOrderSaid :=
  OpenClaim.holds_of_wide 6 Try.f6 rfl rfl rfl rfl rfl rfl rfl ⟨rfl, rfl, rfl, rfl, rfl⟩ rfl rfl rfl rfl rfl (by kernel_rfl) Try.func6 (by kernel_rfl)
    (of_decide_eq_true (by kernel_rfl)) (by unfold Func.isWrapper; first | (rw [if_pos (by decide +kernel)]; kernel_rfl) | (rw [if_neg (by decide +kernel)]; exact ⟨rfl, rfl⟩))
    (fun os started H enc _ => lifted os started H enc)

end Go.Proofs.Ythjjkpkohhmgcaa.blocksOrder

/- Blocks: Above's walk. -/
import Derived.Test.YthjjkpkohhmgcaaVq
namespace Go.Proofs.Ythjjkpkohhmgcaa
open Go.RowKit Go.Proofs.YthjjkpkohhmgcaaW.PrintWords Go.Proofs.Ythjjkpkohhmgcaa.Dom

/-- What Above answers. -/
def AbovePost (L : List Bk) (w : World) (e : Ending) (w' : World) : Prop :=
  Below w.heap.size w w' ∧ ((checkE L ≠ 0 ∧ e = .returned (.tuple #[.slice none 0 0, .int .i64 (checkE L)])) ∨ (May 20000 L ∧ ∃ (g c : Nat) (up : Nat → Option Nat) (t : Look.Told (gB L) L.length (lookS L)), e = .returned (.tuple #[.slice (some ⟨g, 0, none⟩) L.length c, .int .i64 0]) ∧
    (∀ x, x < L.length → w'.cell? ⟨g, x, none⟩ = some (.int .i64 (match up x with | some o => (o : Int) | none => -1))) ∧ (∃ i, Dom.Inv (graphOf t) up i) ∧ ∀ b x, b ∈ (lookS L).done → (Anc up x b ↔ ¬ Av (fun a b => b ∈ gB L a) x b)))
set_option maxRecDepth 100000 in
set_option maxHeartbeats 8000000 in
theorem above_any (A : Option Addr) (c : Nat) (L : List Bk) (w : World) (hL : kB.C w A L.length L) (hb : L.length * 48 ≤ 140737488355328) : Calls Try.prog 16 #[.slice A L.length c] w (AbovePost L w) := by
  have HC := hid (check_any A c L w hL hb)
  have q0 := field0
  have HK := hid hL
  clear hL hb
  generalize hz : checkE L = z at *
  have HZ := hid hz
  clear hz
  by_cases h0 : z = 0
  · have HM := hid ((checkE_may L).1 (HZ.out.trans h0))
    subst h0
    obtain ⟨lb, lo, eA⟩ := C_plain HK.out HM.out.pos (by decide)
    subst eA
    have HLK := hid (fun W (hB : Below w.heap.size w W) => lookThrough_any lb lo c L W (Kd.C_below HK.out hB) HM.out)
    have hmk := mk_ints L.length HM.out.few
    have hml := mk_lists L.length HM.out.few
    have hN8 := HM.out.few
    generalize hN : L.length = N at *
    have HN := hid hN
    clear hN
    go_enter Try.func16, Try.ntmps16
    go_upto_region 4 with (go_at_call 24; refine HC.out.mono ?_; rintro e w1 ⟨rfl, hB⟩; have HB := hid hB; clear hB)
    go_upto_region 5 with (go_at_call 25; refine (HLK.out _ HB.out).mono ?_; rintro e w2 ⟨A1, c1, A2, c2, bk, rfl, p1, p2, p3, p4, p5, p6, p7⟩; have P1 := hid p1; have P5 := hid p5; have P6 := hid p6; clear p1 p2 p3 p4 p5 p6 p7)
    go_upto_region 7 with fail
    have HB2 := hid (below_step HB.out P6.out)
    have HT : Hid (Look.Told (gB L) L.length (lookS L)) := Look.look_law HM.out.lt HM.out.pos (Nat.le_refl _)
    have HL2 := hid (Kd.C_below HK.out HB2.out)
    have hdl : Hid (0 < (lookS L).done.length ∧ (lookS L).done.length ≤ N) := by
      have h1 : (lookS L).done.length ≤ L.length := nodup_len L.length _ HT.out.once HT.out.lt
      obtain ⟨D, e, _⟩ := HT.out.root
      rw [HN.out] at h1
      exact ⟨by rw [e]; simp, h1⟩
    have hol : (lookS L).done.reverse.length = (lookS L).done.length := List.length_reverse
    have HON := hid (show (lookS L).done.reverse.Nodup from List.pairwise_reverse.2 (HT.out.once.imp (fun h => Ne.symm h)))
    have HOL := hid (show ∀ b ∈ (lookS L).done.reverse, b < L.length from fun b hb => HT.out.lt b (List.mem_reverse.1 hb))
    rw [← hol] at P1 P5 hdl
    generalize hO : (lookS L).done.reverse = O at *
    have HO := hid hO
    clear hO
    rw [← hol]
    clear hol HLK HC HB P6 hmk hml q0
    obtain ⟨g1, o1, eA1⟩ := C_plain P1.out hdl.out.1 (by decide)
    subst eA1
    have K0 := blk_alloc (blk_alloc (blk_new w2 (.cells (Array.replicate N (.int .i64 0)) 3)) (.cells #[.slice (some ⟨w2.heap.size, 0, none⟩) N N] 27)) (.cells (Array.replicate N (.slice none 0 0)) 27)
    have K1 := blk_alloc (blk_new (w2.alloc (.cells (Array.replicate N (.int .i64 0)) 3)) (.cells #[.slice (some ⟨w2.heap.size, 0, none⟩) N N] 27)) (.cells (Array.replicate N (.slice none 0 0)) 27)
    have K2 := blk_new ((w2.alloc (.cells (Array.replicate N (.int .i64 0)) 3)).alloc (.cells #[.slice (some ⟨w2.heap.size, 0, none⟩) N N] 27)) (.cells (Array.replicate N (.slice none 0 0)) 27)
    have B3 := below_alloc (below_alloc (below_alloc (Below.refl w2.heap.size w2) (.cells (Array.replicate N (.int .i64 0)) 3)) (.cells #[.slice (some ⟨w2.heap.size, 0, none⟩) N N] 27)) (.cells (Array.replicate N (.slice none 0 0)) 27)
    simp only [World.size_alloc] at K1 K2
    generalize ((w2.alloc (.cells (Array.replicate N (.int .i64 0)) 3)).alloc (.cells #[.slice (some ⟨w2.heap.size, 0, none⟩) N N] 27)).alloc (.cells (Array.replicate N (.slice none 0 0)) 27) = w3 at *
    have HK0 := hid K0
    have HK1 := hid K1
    have HK2 := hid K2
    have HB3 := hid B3
    clear K0 K1 K2 B3
    have HBS := hid (show w2.heap.size = w2.heap.size from rfl)
    generalize hB0 : w2.heap.size = B at *
    have HB0 := hid hB0
    clear hB0 HBS
    have HPA := hid (show PA w2 O N B 0 (comers L (O.take 0)) w3 from ⟨HB0.out, HB3.out, HK1.out, by
      have := HK0.out
      rw [placeF_zero, stRow_zero]
      simpa using this, _, by
      have := AHs.made (base := B + 1) HK2.out
      exact this⟩)
    clear HK0 HK1 HK2 HB3
    have hd1 := hdl.out.1
    have hd2 := hdl.out.2
    have HOm := hid (show O.length ≤ 8192 by omega)
    generalize hM : O.length = M at *
    have HOM := hid hM
    clear hM
    go_upto_region 8 with fail
    go_loopw [36] (fun iV wr => ∃ q : Nat, q ≤ M ∧ iV = .int .i64 q ∧ Hid (PA w2 O N B q (comers L (O.take q)) wr)) (fun iV _ => M - (intOf iV).toNat)
    case atStart => exact ⟨0, by omega, rfl, HPA⟩
    obtain ⟨q, hq, rfl, HW⟩ := hrel
    by_cases hqM : q < M
    · obtain ⟨b, hbq⟩ : ∃ b, O[q]? = some b := ⟨_, List.getElem?_eq_getElem (by rw [HOM.out]; exact hqM)⟩
      have hbL := HOL.out b (List.mem_of_getElem? hbq)
      have d1 := C_scalar (h1 := fun _ => rfl) P1.out 0 q (by rw [ints_len, HOM.out]; exact hqM)
      rw [show (ints O).getD q 0 = (b : Int) by simp [ints, List.getD, hbq]] at d1
      have HMK := hid (HW.out.mark HON.out hbq)
      have HBQ := hid hbq
      have lb1 : (b : Int) < N := by rw [← HN.out]; omega
      have d2 := ((HW.out.below.mono (Nat.le_of_eq HB0.out)).cell (World.block_lt_of_cell? w2 _ d1)).trans d1
      have c1' := blk_cell HW.out.kp 0
      have c2' : wr.cell? ⟨B, b, none⟩ = some (.int .i64 (placeF O q b : Int)) := by
        rw [blk_cell HW.out.pl]
        simp [stRow, List.getElem?_range (show b < N by omega)]
      have c3' := blk_frozen HW.out.pl b
      obtain ⟨gA, gc, _, _, g3, _, hgc, hG⟩ := kB_get (b := b) HL2.out (by omega)
      have HG := hid hG
      have HX := hid (fun W (hB : Below B w2 W) => ((hB.mono (Nat.le_of_eq HB0.out)).cell (World.block_lt_of_cell? w2 _ g3)).trans g3)
      have hgl : (gB L b).length = (L.getD b zBk).goes.length := by unfold gB; rw [List.length_map]
      have hN20 := (HM.out.at hbL).1
      clear g3 hG hbq d1
      generalize hK : (L.getD b zBk).goes.length = K at *
      have HKK := hid hK
      clear hK
      go_upto_region 11 with fail
      generalize wr.setCell ⟨B, b, none⟩ (.int .i64 (q : Int)) = w5 at *
      have e1 := HX.out w5 HMK.out.below
      clear c1' c2' c3' d2 HX HW
      go_upto_region 12 with fail
      clear e1
      go_loopw [51] (fun iV wr => ∃ r : Nat, r ≤ K ∧ iV = .int .i64 r ∧ Hid (PA w2 O N B (q + 1) (comersAt L (O.take q) b r) wr)) (fun iV _ => K - (intOf iV).toNat)
      case atStart => exact ⟨0, by omega, rfl, by rw [comersAt_zero]; exact HMK⟩
      obtain ⟨r, hr, rfl, HR⟩ := hrel
      by_cases hrK : r < K
      · obtain ⟨v, hv, hgv, hcv⟩ := HM.out.to hbL (q := r) (by rw [HKK.out]; exact hrK)
        obtain ⟨gb, go, eG⟩ := C_plain HG.out (by omega) (by decide)
        subst eG
        have d1 := C_scalar (h1 := fun _ => rfl) HG.out 0 r (by rw [HKK.out]; exact hrK)
        rw [hcv] at d1
        have d2 := ((HR.out.below.mono (Nat.le_of_eq HB0.out)).cell (World.block_lt_of_cell? w2 _ d1)).trans d1
        obtain ⟨V, hA⟩ := HR.out.ah
        have hvN : v < N := by rw [← HN.out]; exact hv
        have hrow := hA.row v hvN
        obtain ⟨Av, nv, cv, eV⟩ := R_sl hrow
        have y1 : wr.cell? ⟨B + 1 + 1, v, none⟩ = some (.slice Av nv cv) := by
          rw [blk_cell hA.blk, ← eV]
          simp [List.getElem?_range hvN]
        rw [eV] at hrow
        have HAH := hid hA
        have HRW := hid hrow
        have HEV := hid eV
        have HBW := hid (show B + 1 ≤ wr.heap.size from by have := blk_lt HR.out.kp; omega)
        have HLN := hid (comersAt_len HM.out (O.take q) b r v (fun x hx => HOL.out x (List.mem_of_mem_take hx)))
        have HTQ := hid (show (O.take q).length ≤ 8192 by rw [List.length_take]; have := HOM.out; have := HOm.out; omega)
        have HST := hid (comersAt_step (l := O.take q) hgv)
        have lv : (v : Int) < N := by omega
        clear d1 hcv hgv hA hrow eV
        go_wp2_with (at_builtin; refine Kd.R_append kI (B + 1) rfl (.tmp 60) (.tmp 62) 27 3 _ 8 rfl Try.underlying27 infoInt rfl (by decide) (by decide) _ (ints (comersAt L (O.take q) b r v)) (b : Int) [.int .i64 (b : Int)] (fun _ => True) (fun _ => False) rfl rfl rfl (fun _ h => h.elim) (fun _ _ => trivial) HRW.out (Below.refl (B + 1) wr) HBW.out (by rw [ints_len]; have := HLN.out; have := HTQ.out; omega) ?_; intro v1 w6 hR1 hB1 hG1 hat1; obtain ⟨k1, hP⟩ := HR.out.put (V := V) HAH.out (t := v) hvN hR1 hB1 (by rw [HEV.out]; exact hG1) (by rw [HEV.out]; exact hat1); have HP := hid hP; have z1 := blk_frozen k1 v; have z2 := blk_cell k1 v; obtain ⟨A5, n5, c5, rfl⟩ := R_sl hR1; clear hP hR1 hB1 hG1 hat1 k1)
        go_roundw
        case rel => exact ⟨r + 1, by omega, by go_num, by rw [HST.out]; exact HP⟩
        case measure => simp [intOf]; omega
      · obtain rfl : r = K := by omega
        have HE := hid (show PA w2 O N B (q + 1) (comers L (O.take (q + 1))) wr by
          have := HR.out
          rw [← hgl, comersAt_end] at this
          rw [List.take_add_one, HBQ.out]
          exact this)
        go_wp2_with fail
        go_roundw
        case rel => exact ⟨q + 1, by omega, by go_num, HE⟩
        case measure => simp [intOf]; omega
    · obtain rfl : q = M := by omega
      have HW2 := hid (show PA w2 O N B q (comers L O) wr by
        have := HW.out
        rw [List.take_of_length_le (by rw [HOM.out]; exact Nat.le_refl _)] at this
        exact this)
      clear HW HPA
      have HRP := hid (fun (W : World) hW => repeat_any wr.heap.size N W (by omega) hN8 hW)
      have k0 := blk_cell (blk_new wr (.cells #[.int .i64 (-1)] 3)) 0
      have HBA := hid (below_alloc (Below.refl wr.heap.size wr) (.cells #[.int .i64 (-1)] 3))
      go_upto_region 18 with (go_at_call 28; refine (HRP.out _ k0).mono ?_; rintro e w7 ⟨g, rfl, r1, r2, r3⟩; have HR1 := hid r1; have HR2 := hid r2; have HR3 := hid (below_step HBA.out r3); clear r1 r2 r3)
      have HPB := hid (PB.made (wr := wr) HR2.out HR3.out (by have := HR1.out; rw [World.size_alloc] at this; omega))
      have f8 := blk_frozen (blk_alloc HR2.out (.cells #[.slice (some ⟨g, 0, none⟩) N N] 27)) 0
      have d8 := row_cell (j := 0) (k := N) (blk_alloc HR2.out (.cells #[.slice (some ⟨g, 0, none⟩) N N] 27)) (by omega)
      have l8 : (0 : Int) < N := by omega
      have c8 := blk_cell (blk_new w7 (.cells #[.slice (some ⟨g, 0, none⟩) N N] 27)) 0
      obtain ⟨wA, rfl⟩ : ∃ x : World, x = wr := ⟨_, rfl⟩
      generalize hko : w7.heap.size = ko at *
      have HKO := hid hko
      clear hko k0 HBA HR1 HR2 HR3 HRP
      go_upto_region 19 with fail
      generalize World.setCell _ _ _ = w8 at *
      clear f8 c8 d8
      obtain ⟨G, hG⟩ : ∃ G, G = graphOf HT.out := ⟨_, rfl⟩
      have HGR := hid (show ∀ x, G.R x ↔ x ∈ O by subst hG; intro x; rw [← HO.out]; exact List.mem_reverse.symm)
      have HGP := hid (show ∀ x, G.pl x = O.idxOf x by subst hG; intro x; rw [← HO.out]; rfl)
      have HGE := hid (show ∀ a b, G.E a b ↔ b ∈ gB L a by subst hG; intro a b; exact Iff.rfl)
      have HGI := hid (show ∀ q b, O[q]? = some b → G.R b ∧ G.pl b = q by
        intro q b h
        obtain ⟨hq, e⟩ := List.getElem?_eq_some_iff.1 h
        exact ⟨(HGR.out b).2 (List.mem_of_getElem? h), by rw [HGP.out, ← e]; exact HON.out.idxOf_getElem q hq⟩)
      have HGL := hid (show ∀ x, G.R x → x < N ∧ G.pl x < q by
        intro x h
        have hx := (HGR.out x).1 h
        refine ⟨by rw [← HN.out]; exact HOL.out x hx, ?_⟩
        rw [HGP.out, ← HOM.out]
        exact List.idxOf_lt_length_of_mem hx)
      have HGC := hid (show ∀ b p, p ∈ comers L O b ↔ (G.R p ∧ G.E p b) by
        intro b p
        rw [mem_comers, HGR.out, HGE.out])
      have HAW := hid (show ∀ up w, PB wA N g ko up w → AW G up N (B + 1) ko B g N w from fun up w h => ⟨by
          have := blk_cell HW2.out.kp 0
          exact (h.below.cell (World.block_lt_of_cell? wA _ this)).trans this, blk_cell h.ko 0, fun x hx => by
          have h1 : wA.cell? ⟨B, x, none⟩ = some (.int .i64 (G.pl x : Int)) := by
            rw [blk_cell HW2.out.pl]
            have := (HGL.out x hx).1
            simp only [stRow, List.getElem?_toArray, List.getElem?_map, List.getElem?_range this, Option.map_some]
            rw [← HOM.out, placeF_all ((HGR.out x).1 hx), HGP.out]
          exact (h.below.cell (World.block_lt_of_cell? wA _ h1)).trans h1, fun x hx => h.at hx, fun x hx => (HGL.out x hx).1⟩)
      have HGT := hid (show ∃ t : Look.Told (gB L) L.length (lookS L), G = graphOf t from ⟨HT.out, hG⟩)
      clear hG
      have HBW := hid (show Below w.heap.size w wA from below_step HB2.out (HW2.out.below.mono (Nat.le_of_eq HB0.out)))
      have hqp : 0 < q := by omega
      go_upto_region 21 with fail
      have HAH := HW2.out.ah
      obtain ⟨V, hAH⟩ := HAH
      have HAH := hid hAH
      clear hAH
      have HEND := hid (show ∀ (wr : World) (up : Nat → Option Nat), PB wA N g ko up wr → Inv G up 1 → Fix G up q → AbovePost L w (.returned (.tuple #[.slice (some ⟨g, 0, none⟩) N N, .int .i64 0])) (wr.setCell ⟨g, 0, none⟩ (.int .i64 (-1))) from by
        intro wr up HP HI HF
        refine ⟨?_, .inr ⟨HM.out, g, N, up, ?_⟩⟩
        · exact (HBW.out.trans (HP.below.mono HBW.out.size)).setCell (by have := HP.bg; have := HBW.out.size; show w.heap.size ≤ g; omega) _
        · obtain ⟨t, ht⟩ := HGT.out
          refine ⟨t, by rw [HN.out], fun x hx => ?_, ⟨1, by rw [← ht]; exact HI⟩, fun b x hb => ?_⟩
          · rw [HN.out] at hx
            exact HP.last HI.zero hx
          · have h1 := final_of (x := x) HI HF (fun x hx => (HGL.out x hx).2) ((HGR.out b).2 (by rw [← HO.out]; exact List.mem_reverse.2 hb))
            rw [h1]
            subst ht
            exact Iff.rfl)
      have hqc := P5.out
      by_cases hq1 : q = 1
      · have HQ1 := hid hq1
        have lq1 : ((q : Int) - 1) = 0 := by omega
        clear hq1
        by_cases hc1 : c1 = 1
        case' pos => subst hc1
        case' neg => have hc1' : ¬ ((c1 : Int) = 1) := by omega
        all_goals
          go_loopg [14] (2 * pot G (fun _ => none) N + 1) (fun k mV wr => ∃ (mb : Bool) (up : Nat → Option Nat), mV = .bool mb ∧ Hid (k = 2 * pot G up N + mb.toNat) ∧ Hid (PB wA N g ko up wr) ∧ Hid (Inv G up 1) ∧ Hid (mb = false → Fix G up q)) 
          case atStart => exact ⟨true, _, rfl, rfl, HPB, Inv.start G, fun h => by cases h⟩
          case round =>
          obtain ⟨mb, up, rfl, HK2, HP, HI, HF⟩ := hrel
          cases mb with
          | false =>
            have c1' := blk_cell HP.out.ko 0
            have d1' := HP.out.at (x := 0) (by omega)
            have f1' := blk_frozen HP.out.out 0
            have HKF := hid (blk_far (p := ⟨g, 0, none⟩) HP.out.ko (blk_ne HP.out.ko HP.out.out (by decide)) (.int .i64 (-1)))
            have c2' := blk_cell HKF.out 0
            go_wp2_with fail
            go_ret2
            exact HEND.out _ _ HP.out HI.out (HF.out (by first | trivial | rfl))
          | true =>
            clear HF
            go_upto_region 24 with fail
            go_loopw [14, 78] (fun mV iV wr => mV = .bool false ∧ iV = .int .i64 0 ∧ Hid (PB wA N g ko up wr)) (fun _ _ _ => 0)
            case atStart => exact ⟨rfl, rfl, HP⟩
            obtain ⟨rfl, rfl, HP2⟩ := hrel
            go_wp2_with fail
            go_roundg (2 * pot G up N)
            case rel => exact ⟨false, up, rfl, rfl, HP2, HI, fun _ => by rw [HQ1.out]; exact Fix.start G up⟩
            case measure => have := HK2.out; simp only [Bool.toNat_true] at this; omega
      · have hc1 : ¬ ((c1 : Int) = 1) := by omega
        have lq0 : ¬ ((q : Int) = 1) := by omega
        go_loopg [14] (2 * pot G (fun _ => none) N + 1) (fun k mV wr => ∃ (mb : Bool) (up : Nat → Option Nat), mV = .bool mb ∧ Hid (k = 2 * pot G up N + mb.toNat) ∧ Hid (PB wA N g ko up wr) ∧ Hid (Inv G up 1) ∧ Hid (mb = false → Fix G up q)) 
        case atStart => exact ⟨true, _, rfl, rfl, HPB, Inv.start G, fun h => by cases h⟩
        case round =>
        obtain ⟨mb, up, rfl, HK2, HP, HI, HF⟩ := hrel
        cases mb with
        | false =>
          have c1' := blk_cell HP.out.ko 0
          have d1' := HP.out.at (x := 0) (by omega)
          have f1' := blk_frozen HP.out.out 0
          have HKF := hid (blk_far (p := ⟨g, 0, none⟩) HP.out.ko (blk_ne HP.out.ko HP.out.out (by decide)) (.int .i64 (-1)))
          have c2' := blk_cell HKF.out 0
          go_wp2_with fail
          go_ret2
          exact HEND.out _ _ HP.out HI.out (HF.out (by first | trivial | rfl))
        | true =>
          clear HF
          go_upto_region 24 with fail
          go_loopw [14, 78] (fun mV iV wr => ∃ (mb : Bool) (up' : Nat → Option Nat) (j : Nat), j + 1 ≤ q ∧ mV = .bool mb ∧ iV = .int .i64 j ∧ Hid (PB wA N g ko up' wr) ∧ Hid (Inv G up' (j + 1)) ∧ Hid (Did G up up' N (j + 1) mb)) (fun _ iV _ => q - (intOf iV).toNat)
          case atStart => exact ⟨false, up, 0, by omega, rfl, rfl, HP, HI, Did.start G up N⟩
          obtain ⟨mb, up', j, hj, rfl, rfl, HP2, HI2, HD⟩ := hrel
          clear HP HI
          by_cases hjq : j + 1 < q
          · obtain ⟨b, hbq⟩ : ∃ b, O[j + 1]? = some b := ⟨_, List.getElem?_eq_getElem (by rw [HOM.out]; exact hjq)⟩
            have HGB := hid (HGI.out (j + 1) b hbq)
            have hbN := (HGL.out b HGB.out.1).1
            have hb0 : b ≠ 0 := fun e => by have h1 := HGB.out.2; rw [e, G.pl0] at h1; omega
            have HB0' := hid hb0
            have d1 := C_scalar (h1 := fun _ => rfl) P1.out 0 (j + 1) (by rw [ints_len, HOM.out]; exact hjq)
            rw [show (ints O).getD (j + 1) 0 = (b : Int) by simp [ints, List.getD, hbq], show o1 + (j + 1) = o1 + 1 + j by omega] at d1
            have d2 := (HP2.out.below.cell (World.block_lt_of_cell? wA _ ((HW2.out.below.mono (Nat.le_of_eq HB0.out)).cell (World.block_lt_of_cell? w2 _ d1) |>.trans d1))).trans ((HW2.out.below.mono (Nat.le_of_eq HB0.out)).cell (World.block_lt_of_cell? w2 _ d1) |>.trans d1)
            have hrow := HAH.out.row b hbN
            obtain ⟨Av, nv, cv, eV⟩ := R_sl hrow
            rw [eV] at hrow
            obtain ⟨en, hnc, hCv⟩ := Kd.R_reads' hrow
            rw [ints_len] at en hCv
            have y1 : wA.cell? ⟨B + 1 + 1, b, none⟩ = some (.slice Av nv cv) := by
              rw [blk_cell HAH.out.blk, ← eV]
              simp [List.getElem?_range hbN]
            have y2 := (HP2.out.below.cell (World.block_lt_of_cell? wA _ y1)).trans y1
            have HCV := hid hCv
            have lnv : nv ≤ 9223372036854775807 := by rw [en]; exact hCv.2.1
            have HPS := hid (HGC.out b)
            generalize comers L O b = ps at *
            have HEN := hid en
            clear d1 y1 hbq hrow eV hb0 en hnc hCv
            have lb1 : (b : Int) < N := by omega
            have lj1 : j < q - 1 := by omega
            go_upto_region 28 with fail
            clear d2 y2 lj1
            go_loopw [17, 87] (fun aV iV wr => ∃ (a : Option Nat) (r : Nat), r ≤ nv ∧ aV = .int .i64 (atV a) ∧ iV = .int .i64 r ∧ Hid (PB wA N g ko up' wr) ∧ Hid (Dom.Found G up' (ps.take r) a)) (fun _ iV _ => nv - (intOf iV).toNat)
            case atStart => exact ⟨none, 0, by omega, rfl, rfl, HP2, Dom.Found.start⟩
            obtain ⟨a, r, hr, rfl, rfl, HP3, HFo⟩ := hrel
            clear HP2
            by_cases hrn : r < nv
            · obtain ⟨pq, hpq⟩ : ∃ pq, ps[r]? = some pq := ⟨_, List.getElem?_eq_getElem (by rw [← HEN.out]; exact hrn)⟩
              have hpR := ((HPS.out pq).1 (List.mem_of_getElem? hpq)).1
              have HPR := hid hpR
              obtain ⟨ga, oa, eA⟩ := C_plain HCV.out (by rw [← HEN.out]; omega) (by decide)
              subst eA
              have d1 := C_scalar (h1 := fun _ => rfl) HCV.out 0 r (by rw [ints_len, ← HEN.out]; exact hrn)
              rw [show (ints ps).getD r 0 = (pq : Int) by simp [ints, List.getD, hpq]] at d1
              have d2 := (HP3.out.below.cell (World.block_lt_of_cell? wA _ d1)).trans d1
              have c1' := blk_cell HP3.out.ko 0
              have hpN := (HGL.out pq hpR).1
              have c2' := HP3.out.at hpN
              have lp1 : (pq : Int) < N := by omega
              have lr1 : (r : Int) < nv := by omega
              have HTK := hid (show ps.take (r + 1) = ps.take r ++ [pq] by rw [List.take_add_one, hpq]; rfl)
              clear d1 hpq hpR hpN
              by_cases hS : Set' up' pq
              · have hne := fun e => (outV_set (up := up') (c := pq)).1 e hS
                have b1 : (outV up' pq == -1) = false := by simpa using hne
                have HS := hid hS
                clear hS hne
                generalize outV up' pq = ov at *
                cases a with
                | none =>
                  go_wp2_with fail
                  go_roundw
                  case rel => exact ⟨some pq, r + 1, by omega, rfl, by go_num, HP3, by rw [HTK.out]; exact HFo.out.first HPR.out HS.out⟩
                  case measure => simp [intOf]; omega
                | some r0 =>
                  have b2 : (atV (some r0) == -1) = false := by simp [atV]
                  have HBO := hid (both_any G up' (j + 1) N (B + 1) ko B g N wr HI2.out (HAW.out _ _ HP3.out) r0 pq (Two.start HFo.out.1 HPR.out HFo.out.2.1 HS.out))
                  go_wp2_with (go_at_call 29; refine HBO.out.mono ?_; rintro e w9 ⟨r9, rfl, h9, k9, rfl⟩; have H9 := hid h9; clear h9)
                  go_roundw
                  case rel => exact ⟨some r9, r + 1, by omega, rfl, by go_num, HP3.out.drewN k9, by rw [HTK.out]; exact HFo.out.both HS.out H9.out⟩
                  case measure => simp [intOf]; omega
              · have hne := (outV_set (up := up') (c := pq)).2 hS
                have HS := hid hS
                rw [hne] at c2'
                clear hS hne
                go_wp2_with fail
                go_roundw
                case rel => exact ⟨a, r + 1, by omega, rfl, by go_num, HP3, by rw [HTK.out]; exact HFo.out.skip HS.out⟩
                case measure => simp [intOf]; omega
            · obtain rfl : r = nv := by omega
              have hfo := HFo.out
              rw [List.take_of_length_le (by rw [← HEN.out]; exact Nat.le_refl _)] at hfo
              obtain ⟨r0, rfl⟩ := hfo.some_ HI2.out HGB.out.1 HGB.out.2 HB0'.out HPS.out
              have HAT := hid (hfo.at HPS.out)
              have HI3 := hid (HI2.out.step HGB.out.1 HGB.out.2 HB0'.out HAT.out)
              have c1' := blk_cell HP3.out.ko 0
              have c2' := HP3.out.at hbN
              have f2' := blk_frozen HP3.out.out b
              clear hfo HFo
              by_cases he : up' b = some r0
              · rw [outV_up he HB0'.out] at c2'
                have b1 : ((r0 : Int) != atV (some r0)) = false := by simp [atV]
                have HE := hid he
                clear he
                go_wp2_with fail
                go_roundw
                case rel => exact ⟨mb, up', j + 1, by omega, rfl, by go_num, HP3, by have := HI3.out; rw [put_self HE.out] at this; exact this, HD.out.stay HGB.out.1 HGB.out.2 HE.out HAT.out⟩
                case measure => simp [intOf]; omega
              · have hne : ¬ outV up' b = (r0 : Int) := by
                  intro e
                  unfold outV at e
                  rw [if_neg HB0'.out] at e
                  cases eu : up' b with
                  | none => rw [eu] at e; simp only at e; omega
                  | some o =>
                    rw [eu] at e he
                    simp only at e
                    exact he (by congr 1; omega)
                have b1 : (outV up' b != atV (some r0)) = true := by simpa [atV] using hne
                have HE := hid he
                clear he hne
                generalize outV up' b = ov at *
                have HP4 := hid (show PB wA N g ko (put up' b r0) (wr.setCell ⟨g, b, none⟩ (.int .i64 (atV (some r0)))) from HP3.out.put (r := r0) HB0'.out)
                go_wp2_with fail
                generalize World.setCell _ _ _ = w9 at *
                go_roundw
                case rel => exact ⟨true, _, j + 1, by omega, rfl, by go_num, HP4, HI3, HD.out.up HI2.out HGB.out.1 HGB.out.2 HB0'.out HAT.out HE.out hbN (fun x hx => Nat.lt_of_lt_of_le (HGL.out x hx).2 hd2)⟩
                case measure => simp [intOf]; omega
          · obtain rfl : q = j + 1 := by omega
            go_wp2_with fail
            cases mb with
            | false =>
              obtain ⟨e, hF⟩ := HD.out.1 rfl
              subst e
              go_roundg (2 * pot G up' N)
              case rel => exact ⟨false, up', rfl, rfl, HP2, HI2.out.again (fun x hx => (HGL.out x hx).2), fun _ => hF⟩
              case measure => have := HK2.out; simp only [Bool.toNat_true] at this; omega
            | true =>
              have hlt := HD.out.2 rfl
              go_roundg (2 * pot G up' N + 1)
              case rel => exact ⟨true, up', rfl, rfl, HP2, HI2.out.again (fun x hx => (HGL.out x hx).2), fun h => by cases h⟩
              case measure => have := HK2.out; simp only [Bool.toNat_true] at this; omega
  · have b1 : (z != 0) = true := by simp [h0]
    have b2 : (z == 0) = false := by simp [h0]
    go_enter Try.func16, Try.ntmps16
    go_wp2_with (go_at_call 24; refine HC.out.mono ?_; rintro e w1 ⟨rfl, hB⟩; have HB := hid hB; clear hB)
    go_ret2
    exact ⟨HB.out, .inl ⟨by rw [HZ.out]; exact h0, by rw [HZ.out]; rfl⟩⟩
end Go.Proofs.Ythjjkpkohhmgcaa

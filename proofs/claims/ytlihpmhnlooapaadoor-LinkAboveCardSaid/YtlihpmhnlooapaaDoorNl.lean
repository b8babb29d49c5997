/- The law LinkAbove: which classes stand above, and below, and the nearest one above two, is the document's. -/
import Derived.Test.YtlihpmhnlooapaaDoorR7
import Derived.Carry
import Derived.ShutString
import Derived.ChangeOld
import Derived.SizedLaws
namespace Go.Proofs.YtlihpmhnlooapaaDoor.linkAbove
open Go.ChangeShapes Go.WideShapes Go.ChangeAt Go.RowKit
open Go.ChangeMaps (open_string shut_string)
open Go.Proofs.YtlihpmhnlooapaaDoor Go.Proofs.YtlihpmhnlooapaaDoorW.PrintWords

set_option maxRecDepth 100000 in
set_option maxHeartbeats 8000000 in
theorem walk (A : Option Addr) (l : List Cl) (c : Nat) (a b : Int) (w : World) (hBi : Bi w) (_ : l.length ≤ c) (hC : kCl.C w A l.length l) (hg : gCls l) (_ : (Lit.int .i64 a).wf = true) (_ : (Lit.int .i64 b).wf = true) :
    Calls Tryd.prog 5 #[.slice A l.length c, .int .i64 a, .int .i64 b] w fun e w' => e = .returned (.bool true) ∧ Below w.heap.size w w' := by
  obtain ⟨hok, hb, hb2⟩ := gCls_ok hg
  obtain ⟨n, hn⟩ : ∃ n, l.length = n := ⟨_, rfl⟩
  rw [hn] at hb hb2 hC ⊢
  have HB0 := hid (Below.refl w.heap.size w)
  have HC0 := hid hC
  have HBI := hid (fun W (hW : Below w.heap.size w W) => hBi.below hBi.lt (hW.mono (by have := hBi.lt; omega)))
  have HN := hid hn
  have HOK := hid hok
  clear hok hn hC hg hBi
  go_enter Tryd.func5, Tryd.ntmps5
  go_upto_region 2 with (first
    | (go_at_call 15; refine (headsOf A c l n HN.out w HC0.out hb HOK.out).mono ?_; rintro e w1 ⟨A1, c1, rfl, hC1, hB1⟩; have HC1 := hid hC1; have HB1 := hid (below_weaken HB0.out HB0.out.size hB1); clear hC1 hB1)
    | (go_at_call 14; refine (lawNew2 l n HN.out hb HOK.out A1 c1 w1 (HBI.out _ HB1.out) HC1.out).mono ?_; rintro e w2 ⟨hB2, hE⟩; have HB2 := hid (below_weaken HB1.out HB1.out.size hB2); clear hB2; rcases hE with ⟨h64, rfl⟩ | ⟨h64, r, hs, ⟨s, x, hne, rfl⟩ | ⟨p, hne, rfl, hS⟩⟩))
  · have HR := hid (refNew_5 (c := c) HN.out HC0.out HB2.out hb2 HOK.out h64)
    clear h64
    go_wp2_with (first
      | (go_at_call 25; refine HR.out.mono ?_; rintro e w3 ⟨rfl, hB3⟩; have HB3 := hid (below_weaken HB2.out HB2.out.size hB3); clear hB3)
      | (go_at_call 16; refine (awake_any _ (HBI.out _ HB3.out)).mono ?_; rintro e w4 ⟨rfl, hB4⟩; have HB4 := hid (below_weaken HB3.out HB3.out.size hB4); clear hB4))
    go_ret
    exact ⟨rfl, HB4.out⟩
  · have HR := hid (refNew_err (c := c) HN.out HC0.out HB2.out hb2 HOK.out h64 hs hne)
    have hx0 := newErr_ne hne
    have q0 : (x != x) = false := by simp
    have q1 : (x != 0) = true := by simp [hx0]
    clear h64 hs hne hx0
    go_wp2_with (first
      | (go_at_call 25; refine HR.out.mono ?_; rintro e w3 ⟨rfl, hB3⟩; have HB3 := hid (below_weaken HB2.out HB2.out.size hB3); clear hB3)
      | (go_at_call 16; refine (awake_any _ (HBI.out _ HB3.out)).mono ?_; rintro e w4 ⟨rfl, hB4⟩; have HB4 := hid (below_weaken HB3.out HB3.out.size hB4); clear hB4))
    go_ret
    exact ⟨rfl, HB4.out⟩
  · have HR := hid (refNew_ok (c := c) HN.out HC0.out HB2.out hb2 HOK.out h64 hs hne)
    have HS := hid hS
    clear h64 hs hne hS
    go_upto_region 3 with (go_at_call 25; refine HR.out.mono ?_; rintro e w3 ⟨pm, r', rfl, hRS, he, hn', hB3⟩; have HRS := hid hRS; have HE := hid he; have HNO := hid hn'; have HBX := hid hB3; have HB3 := hid (below_weaken HB2.out HB2.out.size hB3); clear hRS he hn' hB3)
    obtain ⟨gm, cm, N, S, F, hP, hG⟩ := both_of (HS.out.step HBX.out) HRS.out HB3.out HE.out HNO.out
    have HP := hid hP
    have HG := hid hG
    clear HR HS HRS HE HNO hP hG HBX
    have hNb := HG.out.len.2
    obtain ⟨x, hx⟩ : ∃ x, br a (N + 3) = x := ⟨_, rfl⟩
    obtain ⟨y, hy⟩ : ∃ y, br b (N + 3) = y := ⟨_, rfl⟩
    have hxN : x < N + 3 := by rw [← hx]; exact br_lt _ (by omega)
    have hyN : y < N + 3 := by rw [← hy]; exact br_lt _ (by omega)
    have HXa := hid (Brq.mk hx)
    have HXb := hid (Brq.mk hy)
    have HBR := hid (fun (i : Int) (z : Nat) (W : World) (q : Brq i (N + 3) z) => (show Calls Tryd.prog 17 #[.int .i64 i, .int .i64 ((N : Int) + 3)] W fun e w' => e = .returned (.int .i64 z) ∧ w' = W from by
      have := Brq.calls (n := N + 3) (by omega) (by omega) i z W q
      rw [show (((N + 3 : Nat)) : Int) = (N : Int) + 3 by omega] at this
      exact this))
    clear hx hy
    have c0 : w3.cell? ⟨pm, 0, none⟩ = some (.slice (some ⟨gm, 0, none⟩) N cm) := by have := blk_cell HG.out.mv.blk 0; rw [HG.out.len.1] at this; exact this
    have HSA := hid (fun (W : World) (hW : Below w3.heap.size w3 W) => sAboveZ (HP.out.step hW) ((x : Int) - 1))
    have HGA := hid (fun (W : World) (hW : Below w3.heap.size w3 W) => gAboveZ (HG.out.step hW) ((x : Int) - 1))
    have HSB := hid (fun (W : World) (hW : Below w3.heap.size w3 W) => sBelowZ (HP.out.step hW) ((x : Int) - 1) ((y : Int) - 1))
    have HGB := hid (fun (W : World) (hW : Below w3.heap.size w3 W) => gBelowZ (HG.out.step hW) ((x : Int) - 1) ((y : Int) - 1))
    have HSC := hid (fun (W : World) (hW : Below w3.heap.size w3 W) => sCommonZ (HP.out.step hW) ((x : Int) - 1) ((y : Int) - 1))
    have HGC := hid (fun (W : World) (hW : Below w3.heap.size w3 W) => gCommonZ (HG.out.step hW) ((x : Int) - 1) ((y : Int) - 1))
    have hal := aZ_len HG.out ((x : Int) - 1)
    generalize aZ N S F ((x : Int) - 1) = ab at *
    generalize bZ N S F ((x : Int) - 1) ((y : Int) - 1) = bv at *
    generalize cZ N S ((x : Int) - 1) ((y : Int) - 1) = cv at *
    have q2 : (bv == bv) = true := by simp
    have q3 : (cv == cv) = true := by simp
    have HEQ := hid (fun (A1 A2 : Option Addr) (c1 c2 : Nat) (W : World) (h1 : kI.C W A1 ab.length ab) (h2 : kI.C W A2 ab.length ab) => (show Calls Tryd.prog 23 #[.slice A1 ab.length c1, .slice A2 ab.length c2] W fun e w' => e = .returned (.bool true) ∧ Below W.heap.size W w' from by
      have := eqInts_any A1 A2 c1 c2 ab ab W h1 h2 (by omega) (by omega)
      rw [show (ab == ab) = true by simp] at this
      exact this))
    have HBz := hid (Below.refl w3.heap.size w3)
    go_upto_region 10 with (first
      | (go_at_call 17; refine (HBR.out _ _ _ (by first | exact HXa.out | exact HXb.out)).mono ?_; rintro e w' ⟨rfl, hw⟩; obtain rfl := hw.symm)
      | (go_at_call 24; refine (HSA.out _ HBz.out).mono ?_; rintro e w4 ⟨A4, c4, rfl, hR4, hB4⟩; have HR4 := hid hR4; have HB4 := hid hB4; clear hR4 hB4))
    have HC4 := hid (Kd.R_reads' HR4.out).2.2
    go_upto_region 12 with (first
      | (go_at_call 26; refine (HGA.out _ HB4.out).mono ?_; rintro e w5 ⟨A5, c5, rfl, hR5, hB5⟩; have HC5 := hid (Kd.R_reads' hR5).2.2; have HBX5 := hid hB5; have HB5 := hid (below_weaken HB4.out HB4.out.size hB5); clear hR5 hB5)
      | (go_at_call 23; refine (HEQ.out _ _ _ _ _ (Kd.C_below HC4.out HBX5.out) HC5.out).mono ?_; rintro e w6 ⟨rfl, hB6⟩; have HBX6 := hid (below_weaken HBX5.out HBX5.out.size hB6); have HB6 := hid (below_weaken HB5.out HB5.out.size hB6); clear hB6))
    obtain ⟨M, hM⟩ : ∃ M, ab.length = M := ⟨_, rfl⟩
    have HIB := hid (show 0 < M → ∃ g, A4 = some ⟨g, 0, none⟩ ∧ w3.heap.size ≤ g ∧ Ib g M w6 from fun h0 => by
      have hR := HR4.out
      rw [hM] at hR
      obtain ⟨g, e1, e2, e3⟩ := Ib.of hR hM h0
      exact ⟨g, e1, e2, e3.step HBX6.out⟩)
    rw [hM] at hal HSA HGA HEQ ⊢
    have HM := hid hM
    clear hM c0 HR4 HC4 HC5 HBX5 HBX6 HB4 HB5
    go_wp2
    go_loopw [17] (fun iV wr => ∃ q : Nat, q ≤ M ∧ iV = .int .i64 q ∧ Hid (Below w3.heap.size w3 wr) ∧ Hid (0 < M → ∃ g, A4 = some ⟨g, 0, none⟩ ∧ w3.heap.size ≤ g ∧ Ib g M wr)) (fun iV _ => M - (intOf iV).toNat)
    case atStart => exact ⟨0, by omega, rfl, HB6, HIB⟩
    clear HB6 HIB
    obtain ⟨q, hq, rfl, HBr, HIr⟩ := hrel
    by_cases hqM : q < M
    · obtain ⟨g, hA4, hg, hI⟩ := HIr.out (by omega)
      have HIC := hid hI
      subst hA4
      obtain ⟨v, hv⟩ := hI.cell hqM
      have hf := hI.froz q
      clear hI
      go_wp2
      go_roundw
      case rel => exact ⟨q + 1, by omega, by go_num, HBr.out.setCell hg _, hid (fun _ => ⟨g, rfl, hg, HIC.out.put q _⟩)⟩
      case measure => simp [intOf]; omega
    · have HBr0 := HBr.out
      go_wp2_with (first
        | (go_at_call 24; refine (HSA.out _ HBr.out).mono ?_; rintro e w7 ⟨A7, c7, rfl, hR7, hB7⟩; have HC7 := hid (Kd.R_reads' hR7).2.2; have HB7 := hid (below_weaken HBr.out HBr.out.size hB7); clear hR7 hB7)
        | (go_at_call 26; refine (HGA.out _ HB7.out).mono ?_; rintro e w8 ⟨A8, c8, rfl, hR8, hB8⟩; have HC8 := hid (Kd.R_reads' hR8).2.2; have HC78 := hid (Kd.C_below HC7.out hB8); have HB8 := hid (below_weaken HB7.out HB7.out.size hB8); clear hR8 hB8)
        | (go_at_call 23; refine (HEQ.out _ _ _ _ _ (by rw [← HM.out]; exact HC78.out) (by rw [← HM.out]; exact HC8.out)).mono ?_; rintro e w9 ⟨rfl, hB9⟩; have HB9 := hid (below_weaken HB8.out HB8.out.size hB9); clear hB9)
        | (go_at_call 21; refine (HSB.out _ HB9.out).mono ?_; rintro e w' ⟨rfl, hw⟩; obtain rfl := hw.symm)
        | (go_at_call 27; refine (HGB.out _ HB9.out).mono ?_; rintro e w10 ⟨rfl, hB10⟩; have HB10 := hid (below_weaken HB9.out HB9.out.size hB10); clear hB10)
        | (go_at_call 28; refine (HSC.out _ HB10.out).mono ?_; rintro e w11 ⟨rfl, hB11⟩; have HB11 := hid (below_weaken HB10.out HB10.out.size hB11); clear hB11)
        | (go_at_call 29; refine (HGC.out _ HB11.out).mono ?_; rintro e w12 ⟨rfl, hB12⟩; have HB12 := hid (below_weaken HB3.out HB3.out.size (below_weaken HB11.out HB11.out.size hB12)); clear hB12)
        | (go_at_call 16; refine (awake_any _ (HBI.out _ HB12.out)).mono ?_; rintro e w13 ⟨rfl, hB13⟩; have HB13 := hid (below_weaken HB12.out HB12.out.size hB13); clear hB13))
      go_ret
      exact ⟨rfl, HB13.out⟩
set_option maxRecDepth 100000 in
theorem lifted (os : Os) (started : os.Started) (H : Type) (enc : TypeId × Value → H) :
    ReturnsInHanded {} Tryd.checked os 5 .any (fun w args => (Rows.linkAboveSpec.pre enc Tryd.prog Tryd.f5 [] false w args ∧ laidMetH Tryd.prog [("warpbeam/link.builtIn", Rows.laid_warpbeam_link_builtIn)] w) ∧ sizedMet enc Tryd.prog Tryd.f5 (OpenSpec.ofChange Rows.linkAboveSpec) false w args)
      (Rows.linkAboveSpec.post enc Tryd.prog Tryd.f5 false true false false) := by
  refine returnsInHanded_of_change_and (C := Tryd.checked) (X := fun w _ => laidMetH Tryd.prog [("warpbeam/link.builtIn", Rows.laid_warpbeam_link_builtIn)] w) (fun _ _ _ hh h => h.of_heap hh) own started (by kernel_rfl) Tryd.func5
    (ChangeSpec.witness_shaped (enc := enc) (C := Tryd.checked) (os := os) (X := fun w _ => laidMetH Tryd.prog [("warpbeam/link.builtIn", Rows.laid_warpbeam_link_builtIn)] w) false (World.doorLaid Tryd.prog 400 os) #[.slice none 0 0, .int .i64 0, .int .i64 0] 8 rfl (World.shaped_of_RefB (by kernel_rfl) (by kernel_rfl)) (by kernel_rfl) (by kernel_rfl) (by kernel_rfl) (door_met os _)) ?_
  intro W base args ds gs before hval0 hW hcnd hsz0 hL _
  have hval : ∀ (j : Nat) t v, Tryd.f5.params[j]? = some t → args[j]? = some v → Value.okWide Tryd.prog W .any base t v := hval0
  have hsz : (DataW.weightsEach Tryd.prog (Tryd.f5.params.toList ++ Rows.linkAboveSpec.plain.varTypes Tryd.prog) (ds ++ gs)).all (· ≤ reachBytes) = true := hsz0
  have hW' := hW
  obtain ⟨p, q, hA0, hV, rfl, hfz, hnd⟩ := hW
  have hA : DataW.TrodAll enc Tryd.prog W 0 (fun _ => true) true Tryd.f5.params.toList args.toList ds p := hA0
  rw [Tryd.params5] at hA hval hsz
  obtain ⟨v0, vs0, d0, ds0, p0, q0, hargs, rfl, rfl, h0, r0⟩ := trodAll_cons hA
  obtain ⟨v1, vs1, d1, ds1, p1, q1, rfl, rfl, rfl, h1, r1⟩ := trodAll_cons r0
  obtain ⟨v2, vs2, d2, ds2, p2, q2, rfl, rfl, rfl, h2, r2⟩ := trodAll_cons r1
  obtain ⟨rfl, rfl, rfl⟩ := trodAll_nil r2
  obtain rfl : args = #[v0, v1, v2] := by cases args; simp_all
  obtain ⟨rfl, rfl⟩ := trodVars_none hV
  have y0 := h0
  obtain ⟨A0, l0, c0, rfl, k0, C0, g0⟩ := openCls (hval 0 22 v0 rfl rfl) h0 (Op.weights_of hsz (j := 0) rfl rfl)
  have y1 := h1
  obtain ⟨n1, rfl, rfl, rfl, w1⟩ := open_int Tryd.underlying3 (hval 1 3 v1 rfl rfl) h1
  have y2 := h2
  obtain ⟨n2, rfl, rfl, rfl, w2⟩ := open_int Tryd.underlying3 (hval 2 3 v2 rfl rfl) h2
  have hS := bi_of_laid hL
  clear hA0 hval0 hsz0 hsz
  refine (walk A0 l0 c0 n1 n2 W hS k0 C0 g0 w1 w2).mono fun e W' ⟨he, bel⟩ => ?_
  subst he
  exact ⟨_, rfl, _, _, _, [], _, [], hW', trodAll_mk1 (shut_bool Tryd.underlying4 _), (trodAll_cons_mk (Below.trod laidOut (by kernel_rfl) (of_decide_eq_true (by kernel_rfl)) y0 bel (Op.trod_places y0)) (trodAll_cons_mk (Below.trod laidOut (by kernel_rfl) (of_decide_eq_true (by kernel_rfl)) y1 bel (Op.trod_places y1)) (trodAll_cons_mk (Below.trod laidOut (by kernel_rfl) (of_decide_eq_true (by kernel_rfl)) y2 bel (Op.trod_places y2)) trodAll_mk0))), rfl, bel.frame _, fun h => by cases h⟩

theorem over : Rows.LinkAboveSaid :=
  OpenClaim.holds_of_wide 5 Tryd.f5 rfl rfl rfl rfl rfl rfl rfl ⟨rfl, rfl, rfl, rfl, rfl⟩ rfl rfl rfl rfl rfl (by kernel_rfl) Tryd.func5 (by kernel_rfl)
    (of_decide_eq_true (by kernel_rfl)) (by unfold Func.isWrapper; first | (rw [if_pos (by decide +kernel)]; kernel_rfl) | (rw [if_neg (by decide +kernel)]; exact ⟨rfl, rfl⟩))
    (fun os started H enc _ => lifted os started H enc)

end Go.Proofs.YtlihpmhnlooapaaDoor.linkAbove

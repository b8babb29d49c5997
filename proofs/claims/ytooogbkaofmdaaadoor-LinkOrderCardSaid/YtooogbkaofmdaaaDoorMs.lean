/- The law LinkOrder: Below is an order, under Object. -/
import Derived.Test.YtooogbkaofmdaaaDoorMr
import Derived.Carry
import Derived.ShutString
import Derived.ChangeOld
import Derived.SizedLaws
namespace Go.Proofs.YtooogbkaofmdaaaDoor.linkOrder
open Go.ChangeShapes Go.WideShapes Go.ChangeAt Go.RowKit
open Go.ChangeMaps (open_string shut_string)
open Go.Proofs.YtooogbkaofmdaaaDoor Go.Proofs.YtooogbkaofmdaaaDoorW.PrintWords

set_option maxRecDepth 100000 in
set_option maxHeartbeats 8000000 in
theorem walk (A : Option Addr) (l : List Cl) (c : Nat) (a : Int) (b : Int × Int) (w : World) (hBi : Bi w) (_ : l.length ≤ c) (hC : kCl.C w A l.length l) (hg : gCls l) (_ : (Lit.int .i64 a).wf = true) (_ : True) :
    Calls Tryd.prog 4 #[.slice A l.length c, .int .i64 a, .agg #[.int .i64 b.1, .int .i64 b.2]] w fun e w' => e = .returned (.bool true) ∧ Below w.heap.size w w' := by
  obtain ⟨hok, hb, _⟩ := gCls_ok hg
  obtain ⟨n, hn⟩ : ∃ n, l.length = n := ⟨_, rfl⟩
  rw [hn] at hb hC ⊢
  have HB0 := hid (below_alloc (Below.refl w.heap.size w) (.cells #[.int .i64 b.1, .int .i64 b.2] 40))
  have K0 := hid (blk_new w (.cells #[.int .i64 b.1, .int .i64 b.2] 40))
  have HC0 := hid (Kd.C_below hC HB0.out)
  have HBI := hid (fun W (hW : Below w.heap.size w W) => hBi.below hBi.lt (hW.mono (by have := hBi.lt; omega)))
  have HN := hid hn
  have HOK := hid hok
  clear hok hn hC hg hBi
  go_enter Tryd.func4, Tryd.ntmps4
  go_upto_region 1 with fail
  generalize w.alloc (.cells #[.int .i64 b.1, .int .i64 b.2] 40) = w0 at *
  obtain ⟨b5, hb5⟩ : ∃ b5, w.heap.size = b5 := ⟨_, rfl⟩
  rw [hb5]
  go_upto_region 2 with (first
    | (go_at_call 13; refine (headsOf A c l n HN.out w0 HC0.out hb HOK.out).mono ?_; rintro e w1 ⟨A1, c1, rfl, hC1, hB1⟩; have HC1 := hid hC1; have HB1 := hid (below_weaken HB0.out HB0.out.size hB1); have K1 := hid (blk_below K0.out hB1); clear hC1 hB1)
    | (go_at_call 12; refine (lawNew l n HN.out hb HOK.out A1 c1 w1 (HBI.out _ HB1.out) HC1.out).mono ?_; rintro e w2 ⟨hB2, hE⟩; have HB2 := hid (below_weaken HB1.out HB1.out.size hB2); have K2 := hid (blk_below K1.out hB2); clear hB2; rcases hE with ⟨s, x, rfl, hx⟩ | ⟨r, p, hs, rfl, hS⟩))
  · have HA := hid (awake_any w2 (HBI.out _ HB2.out))
    go_wp2_with (go_at_call 15; refine HA.out.mono ?_; rintro e w3 ⟨rfl, hB3⟩; have HB3 := hid (below_weaken HB2.out HB2.out.size hB3); clear hB3)
    go_ret
    exact ⟨rfl, HB3.out⟩
  · rw [hb5] at K2
    have hbig := hS.big
    have HLEN := hid (fun W (hW : W.heap = w2.heap) => len_any (hS.move (w' := W) (fun k _ _ => by rw [hW])))
    have c0 := blk_cell K2.out 0
    have c1' := blk_cell K2.out 1
    have HS := hid hS
    have HBQ := hid (fun (i j : Int) (v : Bool) (W : World) (hW : Below w2.heap.size w2 W) (q : Bq (builtL ++ r) i j v) => Bq.calls hS i j v W q hW)
    clear hS hs K0 K1 HC0 HC1
    have hbN := hbig
    generalize hNN : (builtL ++ r).length = N at hbN HLEN
    have HNN := hid hNN
    clear hNN hbig
    go_upto_region 4 with fail
    go_quiet (first | (go_at_call 24; exact Calls.quiet_of_same (HLEN.out _ rfl)) | (go_at_call 16; exact Calls.quiet_of_same (bring_any _ N (by omega) (by omega) _)))
    obtain ⟨x, hx⟩ : ∃ x, br a N = x := ⟨_, rfl⟩
    obtain ⟨y, hy⟩ : ∃ y, br b.1 N = y := ⟨_, rfl⟩
    obtain ⟨z, hz⟩ : ∃ z, br b.2 N = z := ⟨_, rfl⟩
    have hxN : x < N := by rw [← hx]; exact br_lt _ (by omega)
    have hyN : y < N := by rw [← hy]; exact br_lt _ (by omega)
    have hzN : z < N := by rw [← hz]; exact br_lt _ (by omega)
    rw [hx, hy, hz]
    clear hx hy hz
    have HB3 := hid (pw_below_drewN (Below.refl w2.heap.size w2) nq)
    have HB3w := hid (pw_below_drewN HB2.out nq)
    have hG := HS.out.good
    have hml : (builtL ++ r).length = N := HNN.out
    have Qxx := hid (mkQ HS.out hml hxN hxN (v := true) ⟨fun _ => rfl, fun _ => .refl _⟩)
    have Qx0 := hid (show Bq (builtL ++ r) x 0 true from mkQ HS.out hml hxN (y := 0) (by omega) (v := true) ⟨fun _ => rfl, fun _ => hG.top (by rw [hml]; exact hxN)⟩)
    generalize w2.drewN nq = w3 at *
    by_cases hxy : x = y
    · subst hxy
      by_cases h2 : Link.Reach (supF (supsL (builtL ++ r) (builtL ++ r).length)) (fsF (facesL (builtL ++ r) (builtL ++ r).length)) x z
      · have Qxz := hid (mkQ HS.out hml hxN hzN (v := true) ⟨fun _ => rfl, fun _ => h2⟩)
        clear hG hml h2
        go_wp2_with (first | (go_at_call 20; refine (HBQ.out _ _ _ _ HB3.out (by first | exact Qxx.out | exact Qx0.out | exact Qxz.out)).mono ?_; rintro e w' ⟨rfl, rfl⟩) | (go_at_call 15; refine (awake_any _ (HBI.out _ HB3w.out)).mono ?_; rintro e w4 ⟨rfl, hB4⟩; have HB4 := hid (below_weaken HB3w.out HB3w.out.size hB4); clear hB4))
        go_ret
        exact ⟨rfl, HB4.out⟩
      · have Qxz := hid (mkQ HS.out hml hxN hzN (v := false) ⟨fun h => absurd h h2, fun h => by cases h⟩)
        clear hG hml h2
        go_wp2_with (first | (go_at_call 20; refine (HBQ.out _ _ _ _ HB3.out (by first | exact Qxx.out | exact Qx0.out | exact Qxz.out)).mono ?_; rintro e w' ⟨rfl, rfl⟩) | (go_at_call 15; refine (awake_any _ (HBI.out _ HB3w.out)).mono ?_; rintro e w4 ⟨rfl, hB4⟩; have HB4 := hid (below_weaken HB3w.out HB3w.out.size hB4); clear hB4))
        go_ret
        exact ⟨rfl, HB4.out⟩
    · have b1 : ((x : Int) != (y : Int)) = true := by simp; omega
      by_cases h1 : Link.Reach (supF (supsL (builtL ++ r) (builtL ++ r).length)) (fsF (facesL (builtL ++ r) (builtL ++ r).length)) x y
      · have Qxy := hid (mkQ HS.out hml hxN hyN (v := true) ⟨fun _ => rfl, fun _ => h1⟩)
        have Qyx := hid (mkQ HS.out hml hyN hxN (v := false) ⟨fun h => absurd (hG.anti (by rw [hml]; exact hxN) h1 h) hxy, fun h => by cases h⟩)
        by_cases h2 : Link.Reach (supF (supsL (builtL ++ r) (builtL ++ r).length)) (fsF (facesL (builtL ++ r) (builtL ++ r).length)) y z
        · have Qyz := hid (mkQ HS.out hml hyN hzN (v := true) ⟨fun _ => rfl, fun _ => h2⟩)
          have Qxz := hid (mkQ HS.out hml hxN hzN (v := true) ⟨fun _ => rfl, fun _ => h1.trans h2⟩)
          clear hG hml h2 h1
          go_wp2_with (first | (go_at_call 20; refine (HBQ.out _ _ _ _ HB3.out (by first | exact Qxx.out | exact Qx0.out | exact Qxy.out | exact Qyx.out | exact Qyz.out | exact Qxz.out)).mono ?_; rintro e w' ⟨rfl, rfl⟩) | (go_at_call 15; refine (awake_any _ (HBI.out _ HB3w.out)).mono ?_; rintro e w4 ⟨rfl, hB4⟩; have HB4 := hid (below_weaken HB3w.out HB3w.out.size hB4); clear hB4))
          go_ret
          exact ⟨rfl, HB4.out⟩
        · have Qyz := hid (mkQ HS.out hml hyN hzN (v := false) ⟨fun h => absurd h h2, fun h => by cases h⟩)
          clear hG hml h2 h1
          go_wp2_with (first | (go_at_call 20; refine (HBQ.out _ _ _ _ HB3.out (by first | exact Qxx.out | exact Qx0.out | exact Qxy.out | exact Qyx.out | exact Qyz.out)).mono ?_; rintro e w' ⟨rfl, rfl⟩) | (go_at_call 15; refine (awake_any _ (HBI.out _ HB3w.out)).mono ?_; rintro e w4 ⟨rfl, hB4⟩; have HB4 := hid (below_weaken HB3w.out HB3w.out.size hB4); clear hB4))
          go_ret
          exact ⟨rfl, HB4.out⟩
      · have Qxy := hid (mkQ HS.out hml hxN hyN (v := false) ⟨fun h => absurd h h1, fun h => by cases h⟩)
        clear hG hml h1
        go_wp2_with (first | (go_at_call 20; refine (HBQ.out _ _ _ _ HB3.out (by first | exact Qxx.out | exact Qx0.out | exact Qxy.out)).mono ?_; rintro e w' ⟨rfl, rfl⟩) | (go_at_call 15; refine (awake_any _ (HBI.out _ HB3w.out)).mono ?_; rintro e w4 ⟨rfl, hB4⟩; have HB4 := hid (below_weaken HB3w.out HB3w.out.size hB4); clear hB4))
        go_ret
        exact ⟨rfl, HB4.out⟩
set_option maxRecDepth 100000 in
theorem lifted (os : Os) (started : os.Started) (H : Type) (enc : TypeId × Value → H) :
    ReturnsInHanded {} Tryd.checked os 4 .any (fun w args => (Rows.linkOrderSpec.pre enc Tryd.prog Tryd.f4 [] false w args ∧ laidMetH Tryd.prog [("warpbeam/link.builtIn", Rows.laid_warpbeam_link_builtIn)] w) ∧ sizedMet enc Tryd.prog Tryd.f4 (OpenSpec.ofChange Rows.linkOrderSpec) false w args)
      (Rows.linkOrderSpec.post enc Tryd.prog Tryd.f4 false true false false) := by
  refine returnsInHanded_of_change_and (C := Tryd.checked) (X := fun w _ => laidMetH Tryd.prog [("warpbeam/link.builtIn", Rows.laid_warpbeam_link_builtIn)] w) (fun _ _ _ hh h => h.of_heap hh) own started (by kernel_rfl) Tryd.func4
    (ChangeSpec.witness_shaped (enc := enc) (C := Tryd.checked) (os := os) (X := fun w _ => laidMetH Tryd.prog [("warpbeam/link.builtIn", Rows.laid_warpbeam_link_builtIn)] w) false (World.doorLaid Tryd.prog 400 os) #[.slice none 0 0, .int .i64 0, .agg #[.int .i64 0, .int .i64 0]] 8 rfl (World.shaped_of_RefB (by kernel_rfl) (by kernel_rfl)) (by kernel_rfl) (by kernel_rfl) (by kernel_rfl) (door_met os _)) ?_
  intro W base args ds gs before hval0 hW hcnd hsz0 hL _
  have hval : ∀ (j : Nat) t v, Tryd.f4.params[j]? = some t → args[j]? = some v → Value.okWide Tryd.prog W .any base t v := hval0
  have hsz : (DataW.weightsEach Tryd.prog (Tryd.f4.params.toList ++ Rows.linkOrderSpec.plain.varTypes Tryd.prog) (ds ++ gs)).all (· ≤ reachBytes) = true := hsz0
  have hW' := hW
  obtain ⟨p, q, hA0, hV, rfl, hfz, hnd⟩ := hW
  have hA : DataW.TrodAll enc Tryd.prog W 0 (fun _ => true) true Tryd.f4.params.toList args.toList ds p := hA0
  rw [Tryd.params4] at hA hval hsz
  obtain ⟨v0, vs0, d0, ds0, p0, q0, hargs, rfl, rfl, h0, r0⟩ := trodAll_cons hA
  obtain ⟨v1, vs1, d1, ds1, p1, q1, rfl, rfl, rfl, h1, r1⟩ := trodAll_cons r0
  obtain ⟨v2, vs2, d2, ds2, p2, q2, rfl, rfl, rfl, h2, r2⟩ := trodAll_cons r1
  obtain ⟨rfl, rfl, rfl⟩ := trodAll_nil r2
  obtain rfl : args = #[v0, v1, v2] := by cases args; simp_all
  obtain ⟨rfl, rfl⟩ := trodVars_none hV
  have y0 := h0
  obtain ⟨A0, l0, c0, rfl, k0, C0, g0⟩ := openCls (hval 0 22 v0 rfl rfl) h0 (Op.weights_of hsz (j := 0) rfl rfl)
  have y1 := h1
  obtain ⟨n1, rfl, rfl, rfl, w1⟩ := open_int Tryd.underlying3 (hval 1 3 v1 rfl rfl) h1
  have y2 := h2
  obtain ⟨b2, rfl, t2⟩ := open2 (hval 2 40 v2 rfl rfl) h2 (Op.weights_of hsz (j := 2) rfl rfl)
  have hS := bi_of_laid hL
  clear hA0 hval0 hsz0 hsz
  refine (walk A0 l0 c0 n1 b2 W hS k0 C0 g0 w1 t2).mono fun e W' ⟨he, bel⟩ => ?_
  subst he
  exact ⟨_, rfl, _, _, _, [], _, [], hW', trodAll_mk1 (shut_bool Tryd.underlying4 _), (trodAll_cons_mk (Below.trod laidOut (by kernel_rfl) (of_decide_eq_true (by kernel_rfl)) y0 bel (Op.trod_places y0)) (trodAll_cons_mk (Below.trod laidOut (by kernel_rfl) (of_decide_eq_true (by kernel_rfl)) y1 bel (Op.trod_places y1)) (trodAll_cons_mk (Below.trod laidOut (by kernel_rfl) (of_decide_eq_true (by kernel_rfl)) y2 bel (Op.trod_places y2)) trodAll_mk0))), rfl, bel.frame _, fun h => by cases h⟩

theorem over : Rows.LinkOrderSaid :=
  OpenClaim.holds_of_wide 4 Tryd.f4 rfl rfl rfl rfl rfl rfl rfl ⟨rfl, rfl, rfl, rfl, rfl⟩ rfl rfl rfl rfl rfl (by kernel_rfl) Tryd.func4 (by kernel_rfl)
    (of_decide_eq_true (by kernel_rfl)) (by unfold Func.isWrapper; first | (rw [if_pos (by decide +kernel)]; kernel_rfl) | (rw [if_neg (by decide +kernel)]; exact ⟨rfl, rfl⟩))
    (fun os started H enc _ => lifted os started H enc)

end Go.Proofs.YtooogbkaofmdaaaDoor.linkOrder

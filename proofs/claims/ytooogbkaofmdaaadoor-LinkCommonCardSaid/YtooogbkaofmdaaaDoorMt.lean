/- The law LinkCommon: the nearest class above both. -/
import Derived.Test.YtooogbkaofmdaaaDoorMr
import Derived.Carry
import Derived.ShutString
import Derived.ChangeOld
import Derived.SizedLaws
namespace Go.Proofs.YtooogbkaofmdaaaDoor.linkCommon
open Go.ChangeShapes Go.WideShapes Go.ChangeAt Go.RowKit
open Go.ChangeMaps (open_string shut_string)
open Go.Proofs.YtooogbkaofmdaaaDoor Go.Proofs.YtooogbkaofmdaaaDoorW.PrintWords

set_option maxRecDepth 100000 in
set_option maxHeartbeats 8000000 in
theorem walk (A : Option Addr) (l : List Cl) (c : Nat) (a b : Int) (w : World) (hBi : Bi w) (_ : l.length ≤ c) (hC : kCl.C w A l.length l) (hg : gCls l) (_ : (Lit.int .i64 a).wf = true) (_ : (Lit.int .i64 b).wf = true) :
    Calls Tryd.prog 5 #[.slice A l.length c, .int .i64 a, .int .i64 b] w fun e w' => e = .returned (.bool true) ∧ Below w.heap.size w w' := by
  obtain ⟨hok, hb, _⟩ := gCls_ok hg
  obtain ⟨n, hn⟩ : ∃ n, l.length = n := ⟨_, rfl⟩
  rw [hn] at hb hC ⊢
  have HB0 := hid (Below.refl w.heap.size w)
  have HC0 := hid hC
  have HBI := hid (fun W (hW : Below w.heap.size w W) => hBi.below hBi.lt (hW.mono (by have := hBi.lt; omega)))
  have HN := hid hn
  have HOK := hid hok
  clear hok hn hC hg hBi
  go_enter Tryd.func5, Tryd.ntmps5
  go_upto_region 2 with (first
    | (go_at_call 13; refine (headsOf A c l n HN.out w HC0.out hb HOK.out).mono ?_; rintro e w1 ⟨A1, c1, rfl, hC1, hB1⟩; have HC1 := hid hC1; have HB1 := hid (below_weaken HB0.out HB0.out.size hB1); clear hC1 hB1)
    | (go_at_call 12; refine (lawNew l n HN.out hb HOK.out A1 c1 w1 (HBI.out _ HB1.out) HC1.out).mono ?_; rintro e w2 ⟨hB2, hE⟩; have HB2 := hid (below_weaken HB1.out HB1.out.size hB2); clear hB2; rcases hE with ⟨s, x, rfl, hx⟩ | ⟨r, p, hs, rfl, hS⟩))
  · have HA := hid (awake_any w2 (HBI.out _ HB2.out))
    go_wp2_with (go_at_call 15; refine HA.out.mono ?_; rintro e w3 ⟨rfl, hB3⟩; have HB3 := hid (below_weaken HB2.out HB2.out.size hB3); clear hB3)
    go_ret
    exact ⟨rfl, HB3.out⟩
  · have hbig := hS.big
    have HLEN := hid (fun W (hW : W.heap = w2.heap) => len_any (hS.move (w' := W) (fun k _ _ => by rw [hW])))
    have HS := hid hS
    have HBQ := hid (fun (i j : Int) (v : Bool) (W : World) (hW : Below w2.heap.size w2 W) (q : Bq (builtL ++ r) i j v) => Bq.calls hS i j v W q hW)
    have HCQ := hid (fun (i j k : Int) (W : World) (hW : Below w2.heap.size w2 W) (q : Cq (builtL ++ r) i j k) => Cq.calls hS i j k W q hW)
    have HSU := hid (fun (i : Nat) (hi : i < (builtL ++ r).length) (W : World) (hW : Below w2.heap.size w2 W) => super_in (hS.step hW) hi)
    clear hS hs HC0 HC1
    have hbN := hbig
    generalize hNN : (builtL ++ r).length = N at hbN HLEN
    have HNN := hid hNN
    clear hNN hbig
    obtain ⟨x, hx⟩ : ∃ x, br a N = x := ⟨_, rfl⟩
    obtain ⟨y, hy⟩ : ∃ y, br b N = y := ⟨_, rfl⟩
    have hxN : x < N := by rw [← hx]; exact br_lt _ (by omega)
    have hyN : y < N := by rw [← hy]; exact br_lt _ (by omega)
    have HXa := hid (Brq.mk hx)
    have HXb := hid (Brq.mk hy)
    have HBR := hid (fun (i : Int) (z : Nat) (W : World) (q : Brq i N z) => Brq.calls (by omega) (by omega) i z W q)
    clear hx hy
    have hml : (builtL ++ r).length = N := HNN.out
    have hG := HS.out.good
    obtain ⟨k, hk, hkx, hky⟩ := hG.common_some (a := x) (b := y) (by rw [hml]; exact hxN) (by rw [hml]; exact hyN)
    have hkN : k < N := by have := hG.chain_lt (by rw [hml]; exact hxN) hkx; omega
    have Cxy := hid (show Cq (builtL ++ r) x y k from ⟨x, y, rfl, rfl, by omega, by omega, hk⟩)
    have Cxx := hid (show Cq (builtL ++ r) x x x from ⟨x, x, rfl, rfl, by omega, by omega, hG.common_self (by omega)⟩)
    have Cyx := hid (show Cq (builtL ++ r) y x k from ⟨y, x, rfl, rfl, by omega, by omega, (hG.common_turn (a := x) (b := y) (by omega) (by omega)).trans hk⟩)
    have Qxk := hid (mkQ HS.out hml hxN hkN (v := true) ⟨fun _ => rfl, fun _ => hG.chain_reach (by omega) hkx⟩)
    have Qyk := hid (mkQ HS.out hml hyN hkN (v := true) ⟨fun _ => rfl, fun _ => hG.chain_reach (by omega) hky⟩)
    have HK := hid (show commonOf (builtL ++ r) x y = k from hk)
    have HG := hid hG
    clear hG hkx hky hk hml
    have HBv := hid (Below.refl w2.heap.size w2)
    go_upto_region 8 with (first
      | (go_at_call 24; refine (HLEN.out _ rfl).mono ?_; rintro e w' ⟨rfl, hw⟩; obtain rfl := hw.symm)
      | (go_at_call 16; refine (HBR.out _ _ _ (by first | exact HXa.out | exact HXb.out)).mono ?_; rintro e w' ⟨rfl, hw⟩; obtain rfl := hw.symm)
      | (go_at_call 22; refine (HCQ.out _ _ _ _ (by first | assumption | exact HBv.out) (by first | exact Cxy.out | exact Cxx.out | exact Cyx.out)).mono ?_; rintro e wc ⟨rfl, hBc⟩; have hbc := bel_tr (a := w2) (by first | assumption | exact HBv.out) hBc)
      | (go_at_call 20; refine (HBQ.out _ _ _ _ (by first | assumption | exact HBv.out) (by first | exact Qxk.out | exact Qyk.out)).mono ?_; rintro e w' ⟨rfl, hw⟩; obtain rfl := hw.symm))
    go_wp2
    go_loopw [13] (fun iV wr => ∃ i : Nat, i < N ∧ iV = .int .i64 i ∧ Hid (commonOf (builtL ++ r) i y = k) ∧ Hid (Below w2.heap.size w2 wr)) (fun iV _ => Link.rank (builtL ++ r).length (supF (supsL (builtL ++ r) (builtL ++ r).length)) (fsF (facesL (builtL ++ r) (builtL ++ r).length)) (intOf iV).toNat)
    case atStart => exact ⟨x, hxN, rfl, HK, by assumption⟩
    obtain ⟨i, hiN, rfl, HI, HBw⟩ := hrel
    have HBww := hid (bel_tr HB2.out HBw.out)
    by_cases hik : i = k
    · have b0 : ((i : Int) != (k : Int)) = false := by simp [hik]
      clear hik
      go_wp2_with (go_at_call 15; refine (awake_any _ (HBI.out _ HBww.out)).mono ?_; rintro e w4 ⟨rfl, hB4⟩; have HB4 := hid (below_weaken HBww.out HBww.out.size hB4); clear hB4)
      go_ret
      exact ⟨rfl, HB4.out⟩
    · have b0 : ((i : Int) != (k : Int)) = true := by simp; omega
      have b1 : ((k : Int) == (i : Int)) = false := by simp; omega
      have hml : (builtL ++ r).length = N := HNN.out
      obtain ⟨u, hu, huN, huc, hrk⟩ := common_step HG.out (by omega) HI.out hik
      have Ciy := hid (show Cq (builtL ++ r) i y k from ⟨i, y, rfl, rfl, by omega, by omega, HI.out⟩)
      have HSUi := hid (fun (W : World) (hW : Below w2.heap.size w2 W) => (show Calls Tryd.prog 25 #[.pointer (some ⟨p, 0, none⟩), .int .i64 i] W fun e w' => e = .returned (.int .i64 u) ∧ w' = W from by
        have := HSU.out i (by omega) W hW
        rw [hu] at this
        exact this))
      have HUN := hid (show u < N by omega)
      have HUC := hid (show commonOf (builtL ++ r) u y = k from huc)
      have HRK := hid hrk
      clear hik hml hu huN huc hrk
      go_wp2_with (first
        | (go_at_call 22; refine (HCQ.out _ _ _ _ (by first | assumption | exact HBv.out | exact HBw.out) Ciy.out).mono ?_; rintro e wc ⟨rfl, hBc⟩; have hbc := bel_tr (a := w2) (by first | assumption | exact HBv.out | exact HBw.out) hBc)
        | (go_at_call 25; refine (HSUi.out _ (by first | assumption | exact HBv.out | exact HBw.out)).mono ?_; rintro e w' ⟨rfl, hw⟩; obtain rfl := hw.symm))
      go_roundw
      case rel => exact ⟨u, HUN.out, rfl, HUC, by assumption⟩
      case measure => simp only [intOf, Int.toNat_natCast]; exact HRK.out
set_option maxRecDepth 100000 in
theorem lifted (os : Os) (started : os.Started) (H : Type) (enc : TypeId × Value → H) :
    ReturnsInHanded {} Tryd.checked os 5 .any (fun w args => (Rows.linkCommonSpec.pre enc Tryd.prog Tryd.f5 [] false w args ∧ laidMetH Tryd.prog [("warpbeam/link.builtIn", Rows.laid_warpbeam_link_builtIn)] w) ∧ sizedMet enc Tryd.prog Tryd.f5 (OpenSpec.ofChange Rows.linkCommonSpec) false w args)
      (Rows.linkCommonSpec.post enc Tryd.prog Tryd.f5 false true false false) := by
  refine returnsInHanded_of_change_and (C := Tryd.checked) (X := fun w _ => laidMetH Tryd.prog [("warpbeam/link.builtIn", Rows.laid_warpbeam_link_builtIn)] w) (fun _ _ _ hh h => h.of_heap hh) own started (by kernel_rfl) Tryd.func5
    (ChangeSpec.witness_shaped (enc := enc) (C := Tryd.checked) (os := os) (X := fun w _ => laidMetH Tryd.prog [("warpbeam/link.builtIn", Rows.laid_warpbeam_link_builtIn)] w) false (World.doorLaid Tryd.prog 400 os) #[.slice none 0 0, .int .i64 0, .int .i64 0] 8 rfl (World.shaped_of_RefB (by kernel_rfl) (by kernel_rfl)) (by kernel_rfl) (by kernel_rfl) (by kernel_rfl) (door_met os _)) ?_
  intro W base args ds gs before hval0 hW hcnd hsz0 hL _
  have hval : ∀ (j : Nat) t v, Tryd.f5.params[j]? = some t → args[j]? = some v → Value.okWide Tryd.prog W .any base t v := hval0
  have hsz : (DataW.weightsEach Tryd.prog (Tryd.f5.params.toList ++ Rows.linkCommonSpec.plain.varTypes Tryd.prog) (ds ++ gs)).all (· ≤ reachBytes) = true := hsz0
  have hW' := hW
  obtain ⟨p, q, hA0, hV, rfl, hfz, hnd⟩ := hW
  have hA : DataW.TrodAll enc Tryd.prog W 0 (fun _ => true) true Tryd.f5.params.toList args.toList ds p := hA0
  rw [Tryd.params5] at hA hval hsz
  obtain ⟨v0, vs0, d0, ds0, p0, q0, hargs, rfl, rfl, h0, r0⟩ := trodAll_cons hA
  obtain ⟨v1, vs1, d1, ds1, p1, q1, rfl, rfl, rfl, h1, r1⟩ := trodAll_cons r0
  obtain ⟨v2, vs2, d2, ds2, p2, q2, rfl, rfl, rfl, h2, r2⟩ := trodAll_cons r1
  obtain ⟨rfl, rfl, rfl⟩ := trodAll_nil r2
  obtain rfl : args = #[v0, v1, v2] := by cases args; simp_all
  obtain ⟨rfl, rfl⟩ := trodVars_none hV
  have y0 := h0
  obtain ⟨A0, l0, c0, rfl, k0, C0, g0⟩ := openCls (hval 0 22 v0 rfl rfl) h0 (Op.weights_of hsz (j := 0) rfl rfl)
  have y1 := h1
  obtain ⟨n1, rfl, rfl, rfl, w1⟩ := open_int Tryd.underlying3 (hval 1 3 v1 rfl rfl) h1
  have y2 := h2
  obtain ⟨n2, rfl, rfl, rfl, w2⟩ := open_int Tryd.underlying3 (hval 2 3 v2 rfl rfl) h2
  have hS := bi_of_laid hL
  clear hA0 hval0 hsz0 hsz
  refine (walk A0 l0 c0 n1 n2 W hS k0 C0 g0 w1 w2).mono fun e W' ⟨he, bel⟩ => ?_
  subst he
  exact ⟨_, rfl, _, _, _, [], _, [], hW', trodAll_mk1 (shut_bool Tryd.underlying4 _), (trodAll_cons_mk (Below.trod laidOut (by kernel_rfl) (of_decide_eq_true (by kernel_rfl)) y0 bel (Op.trod_places y0)) (trodAll_cons_mk (Below.trod laidOut (by kernel_rfl) (of_decide_eq_true (by kernel_rfl)) y1 bel (Op.trod_places y1)) (trodAll_cons_mk (Below.trod laidOut (by kernel_rfl) (of_decide_eq_true (by kernel_rfl)) y2 bel (Op.trod_places y2)) trodAll_mk0))), rfl, bel.frame _, fun h => by cases h⟩

theorem over : Rows.LinkCommonSaid :=
  OpenClaim.holds_of_wide 5 Tryd.f5 rfl rfl rfl rfl rfl rfl rfl ⟨rfl, rfl, rfl, rfl, rfl⟩ rfl rfl rfl rfl rfl (by kernel_rfl) Tryd.func5 (by kernel_rfl)
    (of_decide_eq_true (by kernel_rfl)) (by unfold Func.isWrapper; first | (rw [if_pos (by decide +kernel)]; kernel_rfl) | (rw [if_neg (by decide +kernel)]; exact ⟨rfl, rfl⟩))
    (fun os started H enc _ => lifted os started H enc)

end Go.Proofs.YtooogbkaofmdaaaDoor.linkCommon

/- The law LinkSteps: what stands right above stands above. -/
import Derived.Test.YtlihpmhnlooapaaDoorMr
import Derived.Carry
import Derived.ShutString
import Derived.ChangeOld
import Derived.SizedLaws
namespace Go.Proofs.YtlihpmhnlooapaaDoor.linkSteps
open Go.ChangeShapes Go.WideShapes Go.ChangeAt Go.RowKit
open Go.ChangeMaps (open_string shut_string)
open Go.Proofs.YtlihpmhnlooapaaDoor Go.Proofs.YtlihpmhnlooapaaDoorW.PrintWords

set_option maxRecDepth 100000 in
set_option maxHeartbeats 8000000 in
theorem walk (A : Option Addr) (l : List Cl) (c : Nat) (a b : Int) (w : World) (hBi : Bi w) (_ : l.length ≤ c) (hC : kCl.C w A l.length l) (hg : gCls l) (_ : (Lit.int .i64 a).wf = true) (_ : (Lit.int .i64 b).wf = true) :
    Calls Tryd.prog 3 #[.slice A l.length c, .int .i64 a, .int .i64 b] w fun e w' => e = .returned (.bool true) ∧ Below w.heap.size w w' := by
  obtain ⟨hok, hb, _⟩ := gCls_ok hg
  obtain ⟨n, hn⟩ : ∃ n, l.length = n := ⟨_, rfl⟩
  rw [hn] at hb hC ⊢
  have HB0 := hid (Below.refl w.heap.size w)
  have HC0 := hid hC
  have HBI := hid (fun W (hW : Below w.heap.size w W) => hBi.below hBi.lt (hW.mono (by have := hBi.lt; omega)))
  have HN := hid hn
  have HOK := hid hok
  clear hok hn hC hg hBi
  go_enter Tryd.func3, Tryd.ntmps3
  go_upto_region 2 with (first
    | (go_at_call 15; refine (headsOf A c l n HN.out w HC0.out hb HOK.out).mono ?_; rintro e w1 ⟨A1, c1, rfl, hC1, hB1⟩; have HC1 := hid hC1; have HB1 := hid (below_weaken HB0.out HB0.out.size hB1); clear hC1 hB1)
    | (go_at_call 14; refine (lawNew l n HN.out hb HOK.out A1 c1 w1 (HBI.out _ HB1.out) HC1.out).mono ?_; rintro e w2 ⟨hB2, hE⟩; have HB2 := hid (below_weaken HB1.out HB1.out.size hB2); clear hB2; rcases hE with ⟨s, x, rfl, hx⟩ | ⟨r, p, hs, rfl, hS⟩))
  · have HA := hid (awake_any w2 (HBI.out _ HB2.out))
    go_wp2_with (go_at_call 16; refine HA.out.mono ?_; rintro e w3 ⟨rfl, hB3⟩; have HB3 := hid (below_weaken HB2.out HB2.out.size hB3); clear hB3)
    go_ret
    exact ⟨rfl, HB3.out⟩
  · have hbig := hS.big
    have HLEN := hid (fun W (hW : W.heap = w2.heap) => len_any (hS.move (w' := W) (fun k _ _ => by rw [hW])))
    have HS := hid hS
    have HBQ := hid (fun (i j : Int) (v : Bool) (W : World) (hW : Below w2.heap.size w2 W) (q : Bq (builtL ++ r) i j v) => Bq.calls hS i j v W q hW)
    have HSU := hid (fun (i : Nat) (hi : i < (builtL ++ r).length) (W : World) (hW : Below w2.heap.size w2 W) => super_in (hS.step hW) hi)
    clear hS hs HC0 HC1
    have hbN := hbig
    generalize hNN : (builtL ++ r).length = N at hbN HLEN
    have HNN := hid hNN
    clear hNN hbig
    obtain ⟨x, hx⟩ : ∃ x, br a N = x := ⟨_, rfl⟩
    obtain ⟨y, hy⟩ : ∃ y, br b N = y := ⟨_, rfl⟩
    have hxN : x < N := by rw [← hx]; exact br_lt _ (by omega)
    have hyN : y < N := by rw [← hy]; exact br_lt _ (by omega)
    have HXa := hid (Brq.mk hx)
    have HXb := hid (Brq.mk hy)
    have HBR := hid (fun (i : Int) (z : Nat) (W : World) (q : Brq i N z) => Brq.calls (by omega) (by omega) i z W q)
    clear hx hy
    have hml : (builtL ++ r).length = N := HNN.out
    have hG := HS.out.good
    have HG := hid hG
    have HIF := hid (ifaces_in HS.out (i := x) (by omega))
    have HBv := hid (Below.refl w2.heap.size w2)
    obtain ⟨F0, hF0⟩ : ∃ F0, (facesL (builtL ++ r) (builtL ++ r).length).getD x [] = F0 := ⟨_, rfl⟩
    have HF0 := hid hF0
    have HF0l := hid (show F0.length ≤ 10000000000000 by
      have hx2 : (builtL ++ r).getD x zCl ∈ builtL ++ r := by
        rw [List.getD_eq_getElem?_getD, List.getElem?_eq_getElem (show x < (builtL ++ r).length by omega)]
        exact List.getElem_mem _
      have := (HS.out.ok _ hx2).2.2.1
      rw [← hF0, fsF_at (by omega)]
      unfold fsI
      rw [List.length_map]
      omega)
    have HF0m := hid (show ∀ f ∈ F0, ∃ m : Nat, f = m ∧ m < N ∧ Link.Step (supF (supsL (builtL ++ r) (builtL ++ r).length)) (fsF (facesL (builtL ++ r) (builtL ++ r).length)) x m by
      intro f hf
      obtain ⟨g, cap, m, gs, cs, gf, cf, ga, ca, hV, hA⟩ := HS.out.sv
      have h2 := (hV.facesR x (by omega)).2 f (by rw [hF0]; exact hf)
      obtain ⟨m, rfl⟩ := Int.eq_ofNat_of_zero_le h2.1
      refine ⟨m, rfl, by omega, .inr ?_⟩
      show m ∈ (List.getD _ x []).map Int.toNat
      rw [hF0]
      exact List.mem_map.2 ⟨_, hf, rfl⟩)
    have HF0s := hid (show ∀ m : Nat, m ∈ fsF (facesL (builtL ++ r) (builtL ++ r).length) x → (m : Int) ∈ F0 by
      intro m hm
      have hm2 : m ∈ (List.getD (facesL (builtL ++ r) (builtL ++ r).length) x []).map Int.toNat := hm
      rw [hF0] at hm2
      obtain ⟨f, hf, rfl⟩ := List.mem_map.1 hm2
      obtain ⟨m, rfl, _⟩ := HF0m.out f hf
      simpa using hf)
    rw [hF0] at HIF
    go_upto_region 6 with (first
      | (go_at_call 18; refine (HLEN.out _ rfl).mono ?_; rintro e w' ⟨rfl, hw⟩; obtain rfl := hw.symm)
      | (go_at_call 17; refine (HBR.out _ _ _ (by first | exact HXa.out | exact HXb.out)).mono ?_; rintro e w' ⟨rfl, hw⟩; obtain rfl := hw.symm)
      | (go_at_call 19; refine HIF.out.mono ?_; rintro e w3 ⟨v, rfl, hR, hB⟩; obtain ⟨Au, cu, rfl⟩ := Kd.R_slice hR; have HR3 := hid hR; have HB5 := hid hB; clear hR hB))
    by_cases h0 : x = 0
    · have HSUx := hid (fun (W : World) (hW : Below _ _ W) => HSU.out x (by omega) W hW)
      rw [show supF (supsL (builtL ++ r) (builtL ++ r).length) x = -1 by rw [h0]; exact hG.sup0] at HSUx
      have HC5 := hid (Kd.R_reads' HR3.out).2.2
      have HUP := hid (show (∀ z ∈ F0, ∃ m : Nat, z = m ∧ m < N ∧ Link.Step (supF (supsL (builtL ++ r) (builtL ++ r).length)) (fsF (facesL (builtL ++ r) (builtL ++ r).length)) x m) ∧ (∀ m : Nat, Link.Step (supF (supsL (builtL ++ r) (builtL ++ r).length)) (fsF (facesL (builtL ++ r) (builtL ++ r).length)) x m → (m : Int) ∈ F0) from ⟨HF0m.out, fun m hm => by
        rcases hm with hm | hm
        · rw [h0, hG.sup0] at hm; omega
        · exact HF0s.out m hm⟩)
      have HLB := hid (show F0.length ≤ 1000000000000000 by have := HF0l.out; omega)
      clear HR3 h0
      obtain ⟨M, hM⟩ : ∃ M, F0.length = M := ⟨_, rfl⟩
      have HM := hid hM
      have hMb : M ≤ 1000000000000000 := by rw [← hM]; exact HLB.out
      clear hM
      rw [HM.out] at HC5
      clear hG hml hF0 HF0 HF0l HF0m HF0s HIF
      go_upto_region 8 with (go_at_call 20; refine (HSUx.out _ (by first | assumption | exact HBv.out | exact HB5.out)).mono ?_; rintro e w' ⟨rfl, hw⟩; obtain rfl := hw.symm)
      rw [HM.out]
      obtain ⟨w5, rfl⟩ : ∃ X, X = w3 := ⟨_, rfl⟩
      go_cut [13] (fun v wx => v = .bool (decide (x = y ∨ y = 0)) ∧ wx = w5)
      case first =>
        by_cases h1 : x = y
        · have b1 : ((x : Int) == (y : Int)) = true := by simp [h1]
          have HD := hid (show decide (x = y ∨ y = 0) = true from decide_eq_true (.inl h1))
          clear h1
          go_wp2_with fail
          go_meet
          exact ⟨by rw [HD.out], rfl⟩
        · have b1 : ((x : Int) == (y : Int)) = false := by simp; omega
          by_cases h2 : y = 0
          · have b2 : ((y : Int) == 0) = true := by simp [h2]
            have HD := hid (show decide (x = y ∨ y = 0) = true from decide_eq_true (.inr h2))
            clear h1 h2
            go_wp2_with fail
            go_meet
            exact ⟨by rw [HD.out], rfl⟩
          · have b2 : ((y : Int) == 0) = false := by simp; omega
            have HD := hid (show decide (x = y ∨ y = 0) = false from decide_eq_false (fun h => h.elim h1 h2))
            clear h1 h2
            go_wp2_with fail
            go_meet
            exact ⟨by rw [HD.out], rfl⟩
      case rest =>
        obtain ⟨rfl, hw⟩ := hcut
        rw [hw]
        clear hw
        go_wp2
        go_loop [13, 14] (fun wV iV => ∃ (q : Nat) (bv : Bool), q ≤ M ∧ iV = .int .i64 q ∧ wV = .bool bv ∧ Hid (bv = true ↔ (x = y ∨ y = 0 ∨ ∃ m : Nat, (m : Int) ∈ F0.take q ∧ Link.Reach (supF (supsL (builtL ++ r) (builtL ++ r).length)) (fsF (facesL (builtL ++ r) (builtL ++ r).length)) m y))) (fun _ iV => M - (intOf iV).toNat)
        case atStart => exact ⟨0, decide (x = y ∨ y = 0), by omega, rfl, rfl, hid (by simp)⟩
        obtain ⟨q, bv, hq, rfl, rfl, HW⟩ := hrel
        by_cases hqM : q < M
        · obtain ⟨z, hz⟩ : ∃ z, F0[q]? = some z := ⟨_, List.getElem?_eq_getElem (by rw [HM.out]; exact hqM)⟩
          obtain ⟨m, rfl, hmN, hst⟩ := HUP.out.1 z (List.mem_of_getElem? hz)
          have hC6 : kI.C w5 Au F0.length F0 := by rw [HM.out]; exact HC5.out
          obtain ⟨b2, o2, hA⟩ := C_plain hC6 (by rw [HM.out]; omega) (by decide)
          subst hA
          have d1 := C_scalar (h1 := fun _ => rfl) hC6 0 q (by rw [HM.out]; exact hqM)
          rw [List.getD_eq_getElem?_getD, hz, Option.getD_some] at d1
          have HT := hid (show ∀ s : Nat, ((s : Int) ∈ F0.take (q + 1) ↔ (s : Int) ∈ F0.take q ∨ s = m) from fun s => by
            have e : ((s : Int) = (m : Int)) ↔ s = m := by omega
            rw [List.take_add_one, hz, List.mem_append]
            simp only [Option.toList_some, List.mem_singleton, e])
          have Qxm := hid (mkQ HS.out HNN.out hxN hmN (v := true) ⟨fun _ => rfl, fun _ => .one hst⟩)
          clear hz hC6 hst
          cases bv with
          | true =>
            go_wp2_with (go_at_call 21; refine (HBQ.out _ _ _ _ (by first | assumption | exact HBv.out | exact HB5.out) (by exact Qxm.out)).mono ?_; rintro e w' ⟨rfl, hw⟩; obtain rfl := hw.symm)
            go_round
            case rel => exact ⟨q + 1, true, by omega, by go_num, rfl, ⟨fun _ => (HW.out.1 (by first | rfl | trivial)).imp id (fun h => h.imp id (fun ⟨s, h1, h2⟩ => ⟨s, (HT.out s).2 (.inl h1), h2⟩)), fun _ => rfl⟩⟩
            case measure => simp [intOf]; omega
          | false =>
            by_cases hv : Link.Reach (supF (supsL (builtL ++ r) (builtL ++ r).length)) (fsF (facesL (builtL ++ r) (builtL ++ r).length)) m y
            · have Qmy := hid (mkQ HS.out HNN.out hmN hyN (v := true) ⟨fun _ => rfl, fun _ => hv⟩)
              have HV := hid hv
              clear hv
              go_wp2_with (go_at_call 21; refine (HBQ.out _ _ _ _ (by first | assumption | exact HBv.out | exact HB5.out) (by first | exact Qxm.out | exact Qmy.out)).mono ?_; rintro e w' ⟨rfl, hw⟩; obtain rfl := hw.symm)
              go_round
              case rel => exact ⟨q + 1, true, by omega, by go_num, rfl, ⟨fun _ => .inr (.inr ⟨m, (HT.out m).2 (.inr rfl), HV.out⟩), fun _ => rfl⟩⟩
              case measure => simp [intOf]; omega
            · have Qmy := hid (mkQ HS.out HNN.out hmN hyN (v := false) ⟨fun h => absurd h hv, fun h => by cases h⟩)
              have HV := hid hv
              clear hv
              go_wp2_with (go_at_call 21; refine (HBQ.out _ _ _ _ (by first | assumption | exact HBv.out | exact HB5.out) (by first | exact Qxm.out | exact Qmy.out)).mono ?_; rintro e w' ⟨rfl, hw⟩; obtain rfl := hw.symm)
              go_round
              case rel => exact ⟨q + 1, false, by omega, by go_num, rfl, ⟨(fun h => by cases h), fun h => by
                rcases h with h | h | ⟨s, h1, h2⟩
                · exact HW.out.2 (.inl h)
                · exact HW.out.2 (.inr (.inl h))
                · rcases (HT.out s).1 h1 with h1 | h1
                  · exact HW.out.2 (.inr (.inr ⟨s, h1, h2⟩))
                  · rw [h1] at h2; exact absurd h2 HV.out⟩⟩
              case measure => simp [intOf]; omega
        · have Qxy := hid (mkQ HS.out HNN.out hxN hyN (v := bv) ⟨fun h => HW.out.2 (by
            rcases h.cases' with h | ⟨m, s, t⟩
            · exact .inl h
            · exact .inr (.inr ⟨m, (by rw [List.take_of_length_le (by rw [HM.out]; omega)]; exact HUP.out.2 _ s), t⟩)), fun h => by
            rcases HW.out.1 h with h | h | ⟨s, h1, h2⟩
            · rw [h]; exact .refl _
            · rw [h]; exact HG.out.top (by rw [HNN.out]; exact hxN)
            · obtain ⟨m, e, _, hst⟩ := HUP.out.1 _ (List.mem_of_mem_take h1)
              have : s = m := by omega
              rw [this] at h2
              exact .step hst h2⟩)
          have b3 : (bv == bv) = true := by simp
          have HBww := hid (bel_tr HB2.out HB5.out)
          go_wp2_with (first | (go_at_call 21; refine (HBQ.out _ _ _ _ (by first | assumption | exact HBv.out | exact HB5.out) (by exact Qxy.out)).mono ?_; rintro e w' ⟨rfl, hw⟩; obtain rfl := hw.symm) | (go_at_call 16; refine (awake_any _ (HBI.out _ HBww.out)).mono ?_; rintro e w4 ⟨rfl, hB4⟩; have HB4 := hid (below_weaken HBww.out HBww.out.size hB4); clear hB4))
          go_ret
          exact ⟨rfl, HB4.out⟩
    · have hsl := hG.sup_lt x (by omega) (by omega)
      obtain ⟨u, hu⟩ := Int.eq_ofNat_of_zero_le hsl.1
      have HSUx := hid (fun (W : World) (hW : Below _ _ W) => HSU.out x (by omega) W hW)
      rw [hu] at HSUx
      have HUP := hid (show (∀ z ∈ F0 ++ [(u : Int)], ∃ m : Nat, z = m ∧ m < N ∧ Link.Step (supF (supsL (builtL ++ r) (builtL ++ r).length)) (fsF (facesL (builtL ++ r) (builtL ++ r).length)) x m) ∧ (∀ m : Nat, Link.Step (supF (supsL (builtL ++ r) (builtL ++ r).length)) (fsF (facesL (builtL ++ r) (builtL ++ r).length)) x m → (m : Int) ∈ F0 ++ [(u : Int)]) from ⟨fun z hz => by
        rcases List.mem_append.1 hz with hz | hz
        · exact HF0m.out z hz
        · simp at hz
          exact ⟨u, hz, by omega, .inl (by omega)⟩, fun m hm => by
        rcases hm with hm | hm
        · rw [hu] at hm; exact List.mem_append_right _ (by simp [hm])
        · exact List.mem_append_left _ (HF0s.out m hm)⟩)
      have HLB := hid (show (F0 ++ [(u : Int)]).length ≤ 1000000000000000 by have := HF0l.out; simp; omega)
      obtain ⟨ups, hups⟩ : ∃ ups, F0 ++ [(u : Int)] = ups := ⟨_, rfl⟩
      have HUPS := hid hups
      rw [hups] at HUP HLB
      obtain ⟨M, hM⟩ : ∃ M, ups.length = M := ⟨_, rfl⟩
      have HM := hid hM
      have hMb : M ≤ 1000000000000000 := by rw [← hM]; exact HLB.out
      clear hM
      clear h0 hsl hu hups hG hml hF0 HF0 HF0m HF0s HIF
      go_upto_region 8 with (first
        | (go_at_call 20; refine (HSUx.out _ (by first | assumption | exact HBv.out | exact HB5.out)).mono ?_; rintro e w' ⟨rfl, hw⟩; obtain rfl := hw.symm)
        | (at_builtin; refine Kd.R_append kI w2.heap.size rfl (.tmp 40) (.tmp 44) 31 3 _ 8 rfl Tryd.underlying31 infoInt rfl (by decide) (by decide) _ F0 (u : Int) [.int .i64 (u : Int)] (fun _ => True) (fun _ => False) rfl rfl rfl (fun _ h => h.elim) (fun _ _ => trivial) HR3.out HB5.out HB5.out.size (by have := HF0l.out; omega) ?_; intro v1 w5 hR6 hB6 _ _; rw [HUPS.out] at hR6; obtain ⟨A6, c6, rfl⟩ := Kd.R_slice hR6; have HR6 := hid hR6; have HB6 := hid hB6; clear hR6 hB6))
      have HC5 := hid (Kd.R_reads' HR6.out).2.2
      rw [HM.out] at HC5 ⊢
      clear HR6 HR3
      go_cut [13] (fun v wx => v = .bool (decide (x = y ∨ y = 0)) ∧ wx = w5)
      case first =>
        by_cases h1 : x = y
        · have b1 : ((x : Int) == (y : Int)) = true := by simp [h1]
          have HD := hid (show decide (x = y ∨ y = 0) = true from decide_eq_true (.inl h1))
          clear h1
          go_wp2_with fail
          go_meet
          exact ⟨by rw [HD.out], rfl⟩
        · have b1 : ((x : Int) == (y : Int)) = false := by simp; omega
          by_cases h2 : y = 0
          · have b2 : ((y : Int) == 0) = true := by simp [h2]
            have HD := hid (show decide (x = y ∨ y = 0) = true from decide_eq_true (.inr h2))
            clear h1 h2
            go_wp2_with fail
            go_meet
            exact ⟨by rw [HD.out], rfl⟩
          · have b2 : ((y : Int) == 0) = false := by simp; omega
            have HD := hid (show decide (x = y ∨ y = 0) = false from decide_eq_false (fun h => h.elim h1 h2))
            clear h1 h2
            go_wp2_with fail
            go_meet
            exact ⟨by rw [HD.out], rfl⟩
      case rest =>
        obtain ⟨rfl, hw⟩ := hcut
        rw [hw]
        clear hw
        go_wp2
        go_loop [13, 14] (fun wV iV => ∃ (q : Nat) (bv : Bool), q ≤ M ∧ iV = .int .i64 q ∧ wV = .bool bv ∧ Hid (bv = true ↔ (x = y ∨ y = 0 ∨ ∃ m : Nat, (m : Int) ∈ ups.take q ∧ Link.Reach (supF (supsL (builtL ++ r) (builtL ++ r).length)) (fsF (facesL (builtL ++ r) (builtL ++ r).length)) m y))) (fun _ iV => M - (intOf iV).toNat)
        case atStart => exact ⟨0, decide (x = y ∨ y = 0), by omega, rfl, rfl, hid (by simp)⟩
        obtain ⟨q, bv, hq, rfl, rfl, HW⟩ := hrel
        by_cases hqM : q < M
        · obtain ⟨z, hz⟩ : ∃ z, ups[q]? = some z := ⟨_, List.getElem?_eq_getElem (by rw [HM.out]; exact hqM)⟩
          obtain ⟨m, rfl, hmN, hst⟩ := HUP.out.1 z (List.mem_of_getElem? hz)
          have hC6 : kI.C w5 A6 ups.length ups := by rw [HM.out]; exact HC5.out
          obtain ⟨b2, o2, hA⟩ := C_plain hC6 (by rw [HM.out]; omega) (by decide)
          subst hA
          have d1 := C_scalar (h1 := fun _ => rfl) hC6 0 q (by rw [HM.out]; exact hqM)
          rw [List.getD_eq_getElem?_getD, hz, Option.getD_some] at d1
          have HT := hid (show ∀ s : Nat, ((s : Int) ∈ ups.take (q + 1) ↔ (s : Int) ∈ ups.take q ∨ s = m) from fun s => by
            have e : ((s : Int) = (m : Int)) ↔ s = m := by omega
            rw [List.take_add_one, hz, List.mem_append]
            simp only [Option.toList_some, List.mem_singleton, e])
          have Qxm := hid (mkQ HS.out HNN.out hxN hmN (v := true) ⟨fun _ => rfl, fun _ => .one hst⟩)
          clear hz hC6 hst
          cases bv with
          | true =>
            go_wp2_with (go_at_call 21; refine (HBQ.out _ _ _ _ (by first | assumption | exact HBv.out | exact HB6.out) (by exact Qxm.out)).mono ?_; rintro e w' ⟨rfl, hw⟩; obtain rfl := hw.symm)
            go_round
            case rel => exact ⟨q + 1, true, by omega, by go_num, rfl, ⟨fun _ => (HW.out.1 (by first | rfl | trivial)).imp id (fun h => h.imp id (fun ⟨s, h1, h2⟩ => ⟨s, (HT.out s).2 (.inl h1), h2⟩)), fun _ => rfl⟩⟩
            case measure => simp [intOf]; omega
          | false =>
            by_cases hv : Link.Reach (supF (supsL (builtL ++ r) (builtL ++ r).length)) (fsF (facesL (builtL ++ r) (builtL ++ r).length)) m y
            · have Qmy := hid (mkQ HS.out HNN.out hmN hyN (v := true) ⟨fun _ => rfl, fun _ => hv⟩)
              have HV := hid hv
              clear hv
              go_wp2_with (go_at_call 21; refine (HBQ.out _ _ _ _ (by first | assumption | exact HBv.out | exact HB6.out) (by first | exact Qxm.out | exact Qmy.out)).mono ?_; rintro e w' ⟨rfl, hw⟩; obtain rfl := hw.symm)
              go_round
              case rel => exact ⟨q + 1, true, by omega, by go_num, rfl, ⟨fun _ => .inr (.inr ⟨m, (HT.out m).2 (.inr rfl), HV.out⟩), fun _ => rfl⟩⟩
              case measure => simp [intOf]; omega
            · have Qmy := hid (mkQ HS.out HNN.out hmN hyN (v := false) ⟨fun h => absurd h hv, fun h => by cases h⟩)
              have HV := hid hv
              clear hv
              go_wp2_with (go_at_call 21; refine (HBQ.out _ _ _ _ (by first | assumption | exact HBv.out | exact HB6.out) (by first | exact Qxm.out | exact Qmy.out)).mono ?_; rintro e w' ⟨rfl, hw⟩; obtain rfl := hw.symm)
              go_round
              case rel => exact ⟨q + 1, false, by omega, by go_num, rfl, ⟨(fun h => by cases h), fun h => by
                rcases h with h | h | ⟨s, h1, h2⟩
                · exact HW.out.2 (.inl h)
                · exact HW.out.2 (.inr (.inl h))
                · rcases (HT.out s).1 h1 with h1 | h1
                  · exact HW.out.2 (.inr (.inr ⟨s, h1, h2⟩))
                  · rw [h1] at h2; exact absurd h2 HV.out⟩⟩
              case measure => simp [intOf]; omega
        · have Qxy := hid (mkQ HS.out HNN.out hxN hyN (v := bv) ⟨fun h => HW.out.2 (by
            rcases h.cases' with h | ⟨m, s, t⟩
            · exact .inl h
            · exact .inr (.inr ⟨m, (by rw [List.take_of_length_le (by rw [HM.out]; omega)]; exact HUP.out.2 _ s), t⟩)), fun h => by
            rcases HW.out.1 h with h | h | ⟨s, h1, h2⟩
            · rw [h]; exact .refl _
            · rw [h]; exact HG.out.top (by rw [HNN.out]; exact hxN)
            · obtain ⟨m, e, _, hst⟩ := HUP.out.1 _ (List.mem_of_mem_take h1)
              have : s = m := by omega
              rw [this] at h2
              exact .step hst h2⟩)
          have b3 : (bv == bv) = true := by simp
          have HBww := hid (bel_tr HB2.out HB6.out)
          go_wp2_with (first | (go_at_call 21; refine (HBQ.out _ _ _ _ (by first | assumption | exact HBv.out | exact HB6.out) (by exact Qxy.out)).mono ?_; rintro e w' ⟨rfl, hw⟩; obtain rfl := hw.symm) | (go_at_call 16; refine (awake_any _ (HBI.out _ HBww.out)).mono ?_; rintro e w4 ⟨rfl, hB4⟩; have HB4 := hid (below_weaken HBww.out HBww.out.size hB4); clear hB4))
          go_ret
          exact ⟨rfl, HB4.out⟩
set_option maxRecDepth 100000 in
theorem lifted (os : Os) (started : os.Started) (H : Type) (enc : TypeId × Value → H) :
    ReturnsInHanded {} Tryd.checked os 3 .any (fun w args => (Rows.linkStepsSpec.pre enc Tryd.prog Tryd.f3 [] false w args ∧ laidMetH Tryd.prog [("warpbeam/link.builtIn", Rows.laid_warpbeam_link_builtIn)] w) ∧ sizedMet enc Tryd.prog Tryd.f3 (OpenSpec.ofChange Rows.linkStepsSpec) false w args)
      (Rows.linkStepsSpec.post enc Tryd.prog Tryd.f3 false true false false) := by
  refine returnsInHanded_of_change_and (C := Tryd.checked) (X := fun w _ => laidMetH Tryd.prog [("warpbeam/link.builtIn", Rows.laid_warpbeam_link_builtIn)] w) (fun _ _ _ hh h => h.of_heap hh) own started (by kernel_rfl) Tryd.func3
    (ChangeSpec.witness_shaped (enc := enc) (C := Tryd.checked) (os := os) (X := fun w _ => laidMetH Tryd.prog [("warpbeam/link.builtIn", Rows.laid_warpbeam_link_builtIn)] w) false (World.doorLaid Tryd.prog 400 os) #[.slice none 0 0, .int .i64 0, .int .i64 0] 8 rfl (World.shaped_of_RefB (by kernel_rfl) (by kernel_rfl)) (by kernel_rfl) (by kernel_rfl) (by kernel_rfl) (door_met os _)) ?_
  intro W base args ds gs before hval0 hW hcnd hsz0 hL _
  have hval : ∀ (j : Nat) t v, Tryd.f3.params[j]? = some t → args[j]? = some v → Value.okWide Tryd.prog W .any base t v := hval0
  have hsz : (DataW.weightsEach Tryd.prog (Tryd.f3.params.toList ++ Rows.linkStepsSpec.plain.varTypes Tryd.prog) (ds ++ gs)).all (· ≤ reachBytes) = true := hsz0
  have hW' := hW
  obtain ⟨p, q, hA0, hV, rfl, hfz, hnd⟩ := hW
  have hA : DataW.TrodAll enc Tryd.prog W 0 (fun _ => true) true Tryd.f3.params.toList args.toList ds p := hA0
  rw [Tryd.params3] at hA hval hsz
  obtain ⟨v0, vs0, d0, ds0, p0, q0, hargs, rfl, rfl, h0, r0⟩ := trodAll_cons hA
  obtain ⟨v1, vs1, d1, ds1, p1, q1, rfl, rfl, rfl, h1, r1⟩ := trodAll_cons r0
  obtain ⟨v2, vs2, d2, ds2, p2, q2, rfl, rfl, rfl, h2, r2⟩ := trodAll_cons r1
  obtain ⟨rfl, rfl, rfl⟩ := trodAll_nil r2
  obtain rfl : args = #[v0, v1, v2] := by cases args; simp_all
  obtain ⟨rfl, rfl⟩ := trodVars_none hV
  have y0 := h0
  obtain ⟨A0, l0, c0, rfl, k0, C0, g0⟩ := openCls (hval 0 22 v0 rfl rfl) h0 (Op.weights_of hsz (j := 0) rfl rfl)
  have y1 := h1
  obtain ⟨n1, rfl, rfl, rfl, w1⟩ := open_int Tryd.underlying3 (hval 1 3 v1 rfl rfl) h1
  have y2 := h2
  obtain ⟨n2, rfl, rfl, rfl, w2⟩ := open_int Tryd.underlying3 (hval 2 3 v2 rfl rfl) h2
  have hS := bi_of_laid hL
  clear hA0 hval0 hsz0 hsz
  refine (walk A0 l0 c0 n1 n2 W hS k0 C0 g0 w1 w2).mono fun e W' ⟨he, bel⟩ => ?_
  subst he
  exact ⟨_, rfl, _, _, _, [], _, [], hW', trodAll_mk1 (shut_bool Tryd.underlying4 _), (trodAll_cons_mk (Below.trod laidOut (by kernel_rfl) (of_decide_eq_true (by kernel_rfl)) y0 bel (Op.trod_places y0)) (trodAll_cons_mk (Below.trod laidOut (by kernel_rfl) (of_decide_eq_true (by kernel_rfl)) y1 bel (Op.trod_places y1)) (trodAll_cons_mk (Below.trod laidOut (by kernel_rfl) (of_decide_eq_true (by kernel_rfl)) y2 bel (Op.trod_places y2)) trodAll_mk0))), rfl, bel.frame _, fun h => by cases h⟩

theorem over : Rows.LinkStepsSaid :=
  OpenClaim.holds_of_wide 3 Tryd.f3 rfl rfl rfl rfl rfl rfl rfl ⟨rfl, rfl, rfl, rfl, rfl⟩ rfl rfl rfl rfl rfl (by kernel_rfl) Tryd.func3 (by kernel_rfl)
    (of_decide_eq_true (by kernel_rfl)) (by unfold Func.isWrapper; first | (rw [if_pos (by decide +kernel)]; kernel_rfl) | (rw [if_neg (by decide +kernel)]; exact ⟨rfl, rfl⟩))
    (fun os started H enc _ => lifted os started H enc)

end Go.Proofs.YtlihpmhnlooapaaDoor.linkSteps

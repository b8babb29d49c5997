/- The merge of two runs in place: walks. -/
import Derived.Test.YtbogcknkkbnfnaaDoorKi
namespace Go.Proofs.YtbogcknkkbnfnaaDoor
open Go.RowKit Go.Proofs.YtbogcknkkbnfnaaDoorW.PrintWords

theorem rollN_step (d : List El) (a q : Nat) (h : a ≤ q) : rollN d a (q + 1 - a) = swp (rollN d a (q - a)) q (q + 1) := by
  rw [show q + 1 - a = (q - a) + 1 by omega, rollN, show a + (q - a) = q by omega]
theorem rollD_step (d : List El) (m q p : Nat) (h : q ≤ m) (hp : q = p + 1) : rollD d m (m - p) = swp (rollD d m (m - q)) q p := by
  rw [show m - p = (m - q) + 1 by omega, rollD, show m - (m - q) = q by omega, show q - 1 = p by omega]

set_option maxRecDepth 100000 in
set_option maxHeartbeats 4000000 in
theorem symMerge_one (g c : Nat) (tl : List Value) (d : List El) (N a m b : Nat) (w0 w : World) (hW : SWr g tl w0 d w) (hN : d.length = N) (hm : m = a + 1) (hmb : m < b) (hb : b ≤ N) (hl : N ≤ 4611686018427387903) :
    Calls Tryd.prog 164 #[.slice (some ⟨g, 0, none⟩) N c, .int .i64 a, .int .i64 m, .int .i64 b, cmpV] w fun e w' => e = .returned (.tuple #[]) ∧ ∃ d', SWr g tl w0 d' w' ∧ Mg d a m b d' := by
  have HN := hid hN
  have HM := hid hm
  have s1 : (m : Int) - a = 1 := by omega
  have ham : a < m := by omega
  clear hN hm
  unfold cmpV
  go_enter Tryd.func164, Tryd.ntmps164
  go_wp2
  go_loopw [10, 11, 12] (fun i j _ wr => ∃ u v : Nat, m ≤ u ∧ u ≤ v ∧ v ≤ b ∧ i = .int .i64 u ∧ j = .int .i64 v ∧ Hid (u = m ∨ lt (d.getD (u - 1) zEl) (d.getD a zEl) = true) ∧ Hid (v = b ∨ lt (d.getD v zEl) (d.getD a zEl) = false) ∧ SWr g tl w0 d wr) (fun i j _ _ => (intOf j).toNat - (intOf i).toNat)
  case atStart => exact ⟨m, b, by omega, by omega, by omega, rfl, rfl, .inl rfl, .inl rfl, hW⟩
  obtain ⟨u, v, hu, huv, hv, rfl, rfl, HU, HV, hW⟩ := hrel
  by_cases hlt : u < v
  · obtain ⟨h, hh⟩ : ∃ h, (u + v) / 2 = h := ⟨_, rfl⟩
    have sh : ((u : Int) + v) / 2 = (h : Int) := by omega
    have h1 : u ≤ h := by omega
    have h2 : h < v := by omega
    clear hh
    have hi : h < d.length := by rw [HN.out]; omega
    have hj : a < d.length := by rw [HN.out]; omega
    obtain ⟨fa0, fa1, fa2, fa3, fa4, fa5, fa6⟩ := hW.row.fr h
    obtain ⟨fb0, fb1, fb2, fb3, fb4, fb5, fb6⟩ := hW.row.fr a
    obtain ⟨c0, c1, c2, c3, c4, c5, c6⟩ := hW.row.el h hi
    obtain ⟨e0, e1, e2, e3, e4, e5, e6⟩ := hW.row.el a hj
    have zg := hW.row.lt
    have l1 : (h : Int) < N := by omega
    have l2 : (a : Int) < N := by omega
    have HC := hid (cmpI (d.getD h zEl) (d.getD a zEl))
    obtain ⟨x, hx⟩ : ∃ x, d.getD h zEl = x := ⟨_, rfl⟩
    obtain ⟨y, hy⟩ : ∃ y, d.getD a zEl = y := ⟨_, rfl⟩
    rw [hx] at c0 c1 c2 c3 c4 c5 c6
    rw [hy] at e0 e1 e2 e3 e4 e5 e6
    rw [hx, hy] at HC
    have HXY := hid (And.intro hx hy)
    have HW := hid hW
    clear hi hj hx hy hW
    go_wp2_with fail
    go_still_tail 9, (by kernel_rfl)
    change wpList _ _ _ _ _ wr.drew
    go_wp2_with fail
    refine (named1_any' x y _).mono ?_
    intro e w1 hh
    obtain ⟨rfl, hw⟩ := hh
    have hW1 : SWr g tl w0 d w1 := by rw [hw]; exact HW.out.cmp _ _ 1
    generalize cmpL x.n y.n = cc at *
    clear c0 c1 c2 c3 c4 c5 c6 e0 e1 e2 e3 e4 e5 e6 fa0 fa1 fa2 fa3 fa4 fa5 fa6 fb0 fb1 fb2 fb3 fb4 fb5 fb6 hw HW sh
    rcases HC.out with ⟨k1, k2⟩ | ⟨k1, k2⟩
    · have b1 : decide (cc < 0) = true := by simp; omega
      have HK := hid k1
      clear k1 k2
      go_wp2
      go_roundw
      case rel => exact ⟨h + 1, v, by omega, by omega, hv, by go_num, rfl, .inr (by rw [Nat.add_sub_cancel, HXY.out.1, HXY.out.2]; exact HK.out), HV, hW1⟩
      case measure => simp [intOf]; omega
    · have b1 : decide (cc < 0) = false := by simp; omega
      have HK := hid k1
      clear k1 k2
      go_wp2
      go_roundw
      case rel => exact ⟨u, h, hu, by omega, by omega, rfl, rfl, HU, .inr (by rw [HXY.out.1, HXY.out.2]; exact HK.out), hW1⟩
      case measure => simp [intOf]; omega
  · obtain rfl : u = v := by omega
    have HG := hid (Mg.one d a b u (by omega) hv (by rw [HN.out]; exact hb) (by rw [← HM.out]; exact HU.out) HV.out)
    rw [← HM.out] at HG
    obtain ⟨p, hp⟩ : ∃ p, u = p + 1 := ⟨u - 1, by omega⟩
    have sp : (u : Int) - 1 = (p : Int) := by omega
    have hap : a ≤ p := by omega
    have wp1 : IntKind.i64.wrap (p : Int) = (p : Int) := IntWalk.i64_in _ (by omega)
    have hpN : p < N := by omega
    have HP := hid hp
    clear hp
    obtain ⟨wo, rfl⟩ : ∃ wo : World, wo = wr := ⟨_, rfl⟩
    go_wp2_with fail
    go_loopw [13] (fun k wr => ∃ q : Nat, a ≤ q ∧ q ≤ p ∧ k = .int .i64 q ∧ SWr g tl w0 (rollN d a (q - a)) wr) (fun k _ => p - (intOf k).toNat)
    case atStart => exact ⟨a, by omega, hap, rfl, by rw [Nat.sub_self]; exact hW⟩
    obtain ⟨q, haq, hqp, rfl, hW⟩ := hrel
    by_cases hlt : q < p
    · have hlen := rollN_len d a (q - a)
      rw [HN.out] at hlen
      have hi : q < (rollN d a (q - a)).length := by omega
      have hj : q + 1 < (rollN d a (q - a)).length := by omega
      have HS := hid (hW.swap q (q + 1) hi hj)
      have HST := hid (rollN_step d a q haq)
      obtain ⟨fa0, fa1, fa2, fa3, fa4, fa5, fa6⟩ := hW.row.fr q
      obtain ⟨fb0, fb1, fb2, fb3, fb4, fb5, fb6⟩ := hW.row.fr (q + 1)
      obtain ⟨c0, c1, c2, c3, c4, c5, c6⟩ := hW.row.el q hi
      obtain ⟨e0, e1, e2, e3, e4, e5, e6⟩ := hW.row.el (q + 1) hj
      have zg := hW.row.lt
      have t2 : ((q : Int) + 1).toNat = q + 1 := by omega
      have wp2 : IntKind.i64.wrap ((q : Int) + 1) = (q : Int) + 1 := IntWalk.i64_in _ (by omega)
      have p2 : 0 ≤ (q : Int) + 1 := by omega
      have l1 : (q : Int) < N := by omega
      have l2 : (q : Int) + 1 < N := by omega
      clear hW hi hj hlen
      rw [← HST.out] at HS
      generalize (rollN d a (q - a)).getD q zEl = x at *
      generalize (rollN d a (q - a)).getD (q + 1) zEl = y at *
      clear HST
      go_wp2_with fail
      go_region
      clear c0 c1 c2 c3 c4 c5 c6 e0 e1 e2 e3 e4 e5 e6 fa0 fa1 fa2 fa3 fa4 fa5 fa6 fb0 fb1 fb2 fb3 fb4 fb5 fb6
      go_wp2
      go_roundw
      case rel => exact ⟨q + 1, by omega, by omega, by go_num, HS.out⟩
      case measure => simp [intOf]; omega
    · obtain rfl : q = p := by omega
      go_wp2
      refine bodyPost_ret (results_none rfl _ _ _) rfl ?_
      exact ⟨rfl, _, hW, by rw [show q - a = u - 1 - a by have := HP.out; omega]; exact HG.out⟩
set_option maxRecDepth 100000 in
set_option maxHeartbeats 4000000 in
theorem symMerge_last (g c : Nat) (tl : List Value) (d : List El) (N a m b : Nat) (w0 w : World) (hW : SWr g tl w0 d w) (hN : d.length = N) (ham : a < m) (hm1 : ¬ m = a + 1) (hm : b = m + 1) (hb : b ≤ N) (hl : N ≤ 4611686018427387903) :
    Calls Tryd.prog 164 #[.slice (some ⟨g, 0, none⟩) N c, .int .i64 a, .int .i64 m, .int .i64 b, cmpV] w fun e w' => e = .returned (.tuple #[]) ∧ ∃ d', SWr g tl w0 d' w' ∧ Mg d a m b d' := by
  have HN := hid hN
  have HM := hid hm
  have s1 : ((m : Int) - a == 1) = false := by simp; omega
  have s2 : (b : Int) - m = 1 := by omega
  have hmb : m < b := by omega
  clear hN hm hm1
  unfold cmpV
  go_enter Tryd.func164, Tryd.ntmps164
  go_wp2
  go_loopw [14, 15, 16] (fun i j _ wr => ∃ u v : Nat, a ≤ u ∧ u ≤ v ∧ v ≤ m ∧ i = .int .i64 u ∧ j = .int .i64 v ∧ Hid (u = a ∨ lt (d.getD m zEl) (d.getD (u - 1) zEl) = false) ∧ Hid (v = m ∨ lt (d.getD m zEl) (d.getD v zEl) = true) ∧ SWr g tl w0 d wr) (fun i j _ _ => (intOf j).toNat - (intOf i).toNat)
  case atStart => exact ⟨a, m, by omega, by omega, by omega, rfl, rfl, .inl rfl, .inl rfl, hW⟩
  obtain ⟨u, v, hu, huv, hv, rfl, rfl, HU, HV, hW⟩ := hrel
  by_cases hlt : u < v
  · obtain ⟨h, hh⟩ : ∃ h, (u + v) / 2 = h := ⟨_, rfl⟩
    have sh : ((u : Int) + v) / 2 = (h : Int) := by omega
    have h1 : u ≤ h := by omega
    have h2 : h < v := by omega
    clear hh
    have hi : m < d.length := by rw [HN.out]; omega
    have hj : h < d.length := by rw [HN.out]; omega
    obtain ⟨fa0, fa1, fa2, fa3, fa4, fa5, fa6⟩ := hW.row.fr m
    obtain ⟨fb0, fb1, fb2, fb3, fb4, fb5, fb6⟩ := hW.row.fr h
    obtain ⟨c0, c1, c2, c3, c4, c5, c6⟩ := hW.row.el m hi
    obtain ⟨e0, e1, e2, e3, e4, e5, e6⟩ := hW.row.el h hj
    have zg := hW.row.lt
    have l1 : (h : Int) < N := by omega
    have l2 : (m : Int) < N := by omega
    have HC := hid (cmpI (d.getD m zEl) (d.getD h zEl))
    obtain ⟨x, hx⟩ : ∃ x, d.getD m zEl = x := ⟨_, rfl⟩
    obtain ⟨y, hy⟩ : ∃ y, d.getD h zEl = y := ⟨_, rfl⟩
    rw [hx] at c0 c1 c2 c3 c4 c5 c6
    rw [hy] at e0 e1 e2 e3 e4 e5 e6
    rw [hx, hy] at HC
    have HXY := hid (And.intro hx hy)
    have HW := hid hW
    clear hi hj hx hy hW
    go_wp2_with fail
    go_still_tail 9, (by kernel_rfl)
    change wpList _ _ _ _ _ wr.drew
    go_wp2_with fail
    refine (named1_any' x y _).mono ?_
    intro e w1 hh
    obtain ⟨rfl, hw⟩ := hh
    have hW1 : SWr g tl w0 d w1 := by rw [hw]; exact HW.out.cmp _ _ 1
    generalize cmpL x.n y.n = cc at *
    clear c0 c1 c2 c3 c4 c5 c6 e0 e1 e2 e3 e4 e5 e6 fa0 fa1 fa2 fa3 fa4 fa5 fa6 fb0 fb1 fb2 fb3 fb4 fb5 fb6 hw HW sh
    rcases HC.out with ⟨k1, k2⟩ | ⟨k1, k2⟩
    · have b1 : decide (cc < 0) = true := by simp; omega
      have HK := hid k1
      clear k1 k2
      go_wp2
      go_roundw
      case rel => exact ⟨u, h, hu, by omega, by omega, rfl, rfl, HU, .inr (by rw [HXY.out.1, HXY.out.2]; exact HK.out), hW1⟩
      case measure => simp [intOf]; omega
    · have b1 : decide (cc < 0) = false := by simp; omega
      have HK := hid k1
      clear k1 k2
      go_wp2
      go_roundw
      case rel => exact ⟨h + 1, v, by omega, by omega, hv, by go_num, rfl, .inr (by rw [Nat.add_sub_cancel, HXY.out.1, HXY.out.2]; exact HK.out), HV, hW1⟩
      case measure => simp [intOf]; omega
  · obtain rfl : u = v := by omega
    have HG := hid (Mg.last d a m u hu hv (by rw [HN.out]; omega) HU.out HV.out)
    rw [← HM.out] at HG
    obtain ⟨wo, rfl⟩ : ∃ wo : World, wo = wr := ⟨_, rfl⟩
    go_wp2_with fail
    go_loopw [17] (fun k wr => ∃ q : Nat, u ≤ q ∧ q ≤ m ∧ k = .int .i64 q ∧ SWr g tl w0 (rollD d m (m - q)) wr) (fun k _ => (intOf k).toNat - u)
    case atStart => exact ⟨m, hv, by omega, rfl, by rw [Nat.sub_self]; exact hW⟩
    obtain ⟨q, huq, hqm, rfl, hW⟩ := hrel
    by_cases hlt : u < q
    · obtain ⟨p, hp⟩ : ∃ p, q = p + 1 := ⟨q - 1, by omega⟩
      have sp : (q : Int) - 1 = (p : Int) := by omega
      have hup : u ≤ p := by omega
      have hpq : p < q := by omega
      have wp1 : IntKind.i64.wrap (p : Int) = (p : Int) := IntWalk.i64_in _ (by omega)
      have hlen := rollD_len d m (m - q)
      rw [HN.out] at hlen
      have hi : q < (rollD d m (m - q)).length := by omega
      have hj : p < (rollD d m (m - q)).length := by omega
      have HS := hid (hW.swap q p hi hj)
      have HST := hid (rollD_step d m q p hqm hp)
      obtain ⟨fa0, fa1, fa2, fa3, fa4, fa5, fa6⟩ := hW.row.fr q
      obtain ⟨fb0, fb1, fb2, fb3, fb4, fb5, fb6⟩ := hW.row.fr p
      obtain ⟨c0, c1, c2, c3, c4, c5, c6⟩ := hW.row.el q hi
      obtain ⟨e0, e1, e2, e3, e4, e5, e6⟩ := hW.row.el p hj
      have zg := hW.row.lt
      have l1 : (q : Int) < N := by omega
      have l2 : (p : Int) < N := by omega
      have HP := hid hp
      clear hW hi hj hlen hp
      rw [← HST.out] at HS
      generalize (rollD d m (m - q)).getD q zEl = x at *
      generalize (rollD d m (m - q)).getD p zEl = y at *
      clear HST
      go_wp2_with fail
      go_region
      clear c0 c1 c2 c3 c4 c5 c6 e0 e1 e2 e3 e4 e5 e6 fa0 fa1 fa2 fa3 fa4 fa5 fa6 fb0 fb1 fb2 fb3 fb4 fb5 fb6
      go_wp2
      go_roundw
      case rel => exact ⟨p, hup, by omega, rfl, HS.out⟩
      case measure => simp [intOf]; omega
    · obtain rfl : q = u := by omega
      go_wp2
      refine bodyPost_ret (results_none rfl _ _ _) rfl ?_
      exact ⟨rfl, _, hW, HG.out⟩
end Go.Proofs.YtbogcknkkbnfnaaDoor

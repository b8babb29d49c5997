/- The merge of two runs in place: the general case, its other half. -/
import Derived.Test.YtbogcknkkbnfnaaDoorKk
namespace Go.Proofs.YtbogcknkkbnfnaaDoor
open Go.RowKit Go.Proofs.YtbogcknkkbnfnaaDoorW.PrintWords

set_option maxRecDepth 100000 in
set_option maxHeartbeats 8000000 in
theorem symMerge_B (n : Nat) (ih : SymAt n) (g c : Nat) (tl : List Value) (d : List El) (N a m b : Nat) (w0 w : World) (hn : b - a ≤ n + 1) (hW : SWr g tl w0 d w) (hN : d.length = N) (ham : a < m) (hmb : m < b) (_hm1 : ¬ m = a + 1) (_hm2 : ¬ b = m + 1) (hb : b ≤ N) (hl : N ≤ 4611686018427387903) (hq : m ≤ (a + b) / 2) :
    Calls Tryd.prog 164 #[.slice (some ⟨g, 0, none⟩) N c, .int .i64 a, .int .i64 m, .int .i64 b, cmpV] w fun e w' => e = .returned (.tuple #[]) ∧ ∃ d', SWr g tl w0 d' w' ∧ Mg d a m b d' := by
  have HN := hid hN
  have HI := hid ih
  have s1 : ((m : Int) - a == 1) = false := by simp; omega
  have s2 : ((b : Int) - m == 1) = false := by simp; omega
  obtain ⟨mid, hmid⟩ : ∃ mid, (a + b) / 2 = mid := ⟨_, rfl⟩
  rw [hmid] at hq
  have s3 : ((a : Int) + b) / 2 = (mid : Int) := by omega
  have hmid1 : a < mid := by omega
  have hmid2 : mid < b := by omega
  have HMID := hid hmid.symm
  have s4 : decide (mid < m) = false := by simp; omega
  obtain ⟨p, hp⟩ : ∃ p, p + 1 = mid + m := ⟨mid + m - 1, by omega⟩
  have s5 : (mid : Int) + m - 1 = (p : Int) := by omega
  have hlh : a ≤ m := by omega
  have hh1 : m ≤ mid := by omega
  have hh2 : m ≤ m := by omega
  have hal : a ≤ a := by omega
  have hpl : p < b + a := by omega
  have hpm : mid ≤ p := by omega
  have HP := hid hp
  have HQ := hid hq
  clear hN _hm1 _hm2 hmid ih hp
  unfold cmpV
  go_enter Tryd.func164, Tryd.ntmps164
  go_wp2_with fail
  clear s1 s2 s3 s5
  go_loopw [20, 21, 23] (fun i j _ wr => ∃ u v : Nat, a ≤ u ∧ u ≤ v ∧ v ≤ m ∧ i = .int .i64 u ∧ j = .int .i64 v ∧ Hid (u = a ∨ lt (d.getD (p - (u - 1)) zEl) (d.getD (u - 1) zEl) = false) ∧ Hid (v = m ∨ lt (d.getD (p - v) zEl) (d.getD v zEl) = true) ∧ SWr g tl w0 d wr) (fun i j _ _ => (intOf j).toNat - (intOf i).toNat)
  case atStart => exact ⟨a, m, by omega, by omega, by omega, rfl, rfl, .inl rfl, .inl rfl, hW⟩
  obtain ⟨u, v, hu, huv, hv, rfl, rfl, HU, HV, hW⟩ := hrel
  by_cases hlt : u < v
  · obtain ⟨h, hh⟩ : ∃ h, (u + v) / 2 = h := ⟨_, rfl⟩
    have sh : ((u : Int) + v) / 2 = (h : Int) := by omega
    have h1 : u ≤ h := by omega
    have h2 : h < v := by omega
    clear hh
    obtain ⟨k, hk⟩ : ∃ k, p - h = k := ⟨_, rfl⟩
    have sk : (p : Int) - h = (k : Int) := by omega
    have hkb : k < b := by omega
    have hi : k < d.length := by rw [HN.out]; omega
    have hj : h < d.length := by rw [HN.out]; omega
    obtain ⟨fa0, fa1, fa2, fa3, fa4, fa5, fa6⟩ := hW.row.fr k
    obtain ⟨fb0, fb1, fb2, fb3, fb4, fb5, fb6⟩ := hW.row.fr h
    obtain ⟨c0, c1, c2, c3, c4, c5, c6⟩ := hW.row.el k hi
    obtain ⟨e0, e1, e2, e3, e4, e5, e6⟩ := hW.row.el h hj
    have zg := hW.row.lt
    have wp1 : IntKind.i64.wrap (k : Int) = (k : Int) := IntWalk.i64_in _ (by omega)
    have l1 : (h : Int) < N := by omega
    have l2 : (k : Int) < N := by omega
    have HC := hid (cmpI (d.getD k zEl) (d.getD h zEl))
    obtain ⟨x, hx⟩ : ∃ x, d.getD k zEl = x := ⟨_, rfl⟩
    obtain ⟨y, hy⟩ : ∃ y, d.getD h zEl = y := ⟨_, rfl⟩
    rw [hx] at c0 c1 c2 c3 c4 c5 c6
    rw [hy] at e0 e1 e2 e3 e4 e5 e6
    rw [hx, hy] at HC
    have HK := hid hk
    have HXY := hid (And.intro hx hy)
    have HW := hid hW
    clear hi hj hx hy hW hk
    go_wp2_with fail
    go_still_tail 11, (by kernel_rfl)
    change wpList _ _ _ _ _ wr.drew
    go_wp2_with fail
    refine (named1_any' x y _).mono ?_
    intro e w1 hh
    obtain ⟨rfl, hw⟩ := hh
    have hW1 : SWr g tl w0 d w1 := by rw [hw]; exact HW.out.cmp _ _ 1
    generalize cmpL x.n y.n = cc at *
    clear c0 c1 c2 c3 c4 c5 c6 e0 e1 e2 e3 e4 e5 e6 fa0 fa1 fa2 fa3 fa4 fa5 fa6 fb0 fb1 fb2 fb3 fb4 fb5 fb6 hw HW sh sk
    rcases HC.out with ⟨k1, k2⟩ | ⟨k1, k2⟩
    · as_aux_lemma =>
      have b1 : decide (cc < 0) = true := by simp; omega
      have HKK := hid k1
      clear k1 k2
      go_wp2
      go_roundw
      case rel => exact ⟨u, h, hu, by omega, by omega, rfl, rfl, HU, .inr (by rw [HK.out, HXY.out.1, HXY.out.2]; exact HKK.out), hW1⟩
      case measure => simp [intOf]; omega
    · as_aux_lemma =>
      have b1 : decide (cc < 0) = false := by simp; omega
      have HKK := hid k1
      clear k1 k2
      go_wp2
      go_roundw
      case rel => exact ⟨h + 1, v, by omega, by omega, hv, by go_num, rfl, .inr (by rw [Nat.add_sub_cancel, HK.out, HXY.out.1, HXY.out.2]; exact HKK.out), HV, hW1⟩
      case measure => simp [intOf]; omega
  · obtain rfl : u = v := by omega
    obtain ⟨e, he⟩ : ∃ e, e + u = mid + m := ⟨mid + m - u, by omega⟩
    have s6 : (mid : Int) + m - u = (e : Int) := by omega
    have hme : m ≤ e := by omega
    have heb : e ≤ b := by have := HP.out; omega
    have hum : u ≤ m := by omega
    have hau : a ≤ u := by omega
    have HE := hid he
    have h1 : (u = a ∨ e = b) ∨ lt (d.getD e zEl) (d.getD (u - 1) zEl) = false := by
      have := HP.out
      rcases HU.out with h | h
      · exact .inl (by omega)
      · by_cases c : u = a
        · exact .inl (by omega)
        · rw [show p - (u - 1) = e by omega] at h; exact .inr h
    have h2 : (u = m ∨ e = m) ∨ lt (d.getD (e - 1) zEl) (d.getD u zEl) = true := by
      have := HP.out
      rcases HV.out with h | h
      · exact .inl (by omega)
      · rw [show p - u = e - 1 by omega] at h; exact .inr h
    have HB : Hid (∀ d2 d3, Mg (rotL d u m e) a u mid d2 → Mg d2 mid e b d3 → Mg d a m b d3) := fun d2 d3 k1 k2 => Mg.both d d2 d3 a m b u mid e ham hmb (by rw [HN.out]; exact hb) HMID.out HE.out hau hum hme heb h1 h2 k1 k2
    have HID : Hid (u = m ∨ m = e → rotL d u m e = d) := fun h => rotL_id d u m e hum hme (by rw [HN.out]; omega) h
    have HRL : Hid ((rotL d u m e).length = N) := by rw [← HN.out]; exact rotL_len d u m e hum hme (by rw [HN.out]; omega)
    have hmm : u ≤ mid := by omega
    have hmme : mid ≤ e := by omega
    clear h1 h2 he HU HV HMID
    go_upto_region 39 with fail
    clear s6
    go_cut [185] (fun sb wx => sb = .bool (decide (u < m) && decide (m < e)) ∧ SWr g tl w0 d wx)
    case first =>
      go_wp2_with fail
      all_goals (go_meet; exact ⟨by simp [*], hW⟩)
    case rest =>
      obtain ⟨rfl, hW⟩ := hcut
      go_upto_if 185 with fail
      go_cut [] (fun wx => SWr g tl w0 (rotL d u m e) wx)
      case first =>
        cases c1 : (decide (u < m) && decide (m < e)) with
        | true =>
          as_aux_lemma =>
          have c1' := c1
          simp only [Bool.and_eq_true, decide_eq_true_eq] at c1'
          obtain ⟨ca, cb⟩ := c1'
          clear c1
          go_wp2_with fail
          refine (rotate_any g c tl _ d N u m e w0 _ hW HN.out ca cb (by omega) hl).mono ?_
          rintro e1 w1 ⟨rfl, hW1⟩
          go_wp2_with fail
          go_meet
          exact hW1
        | false =>
          have c2 : u = m ∨ m = e := by
            simp only [Bool.and_eq_false_iff, decide_eq_false_iff_not] at c1
            omega
          rw [← HID.out c2] at hW
          clear c1 c2
          go_wp2_with fail
          go_meet
          exact hW
      case rest =>
        replace hW := hcut
        clear hcut
        generalize rotL d u m e = d1 at *
        go_upto_region 41 with fail
        go_cut [199] (fun sb wx => sb = .bool (decide (a < u) && decide (u < mid)) ∧ SWr g tl w0 d1 wx)
        case first =>
          go_wp2_with fail
          all_goals (go_meet; exact ⟨by simp [*], hW⟩)
        case rest =>
          obtain ⟨rfl, hW⟩ := hcut
          go_upto_if 199 with fail
          go_cut [] (fun wx => ∃ d2, Hid (Mg d1 a u mid d2) ∧ SWr g tl w0 d2 wx)
          case first =>
            cases c1 : (decide (a < u) && decide (u < mid)) with
            | true =>
              as_aux_lemma =>
              have c1' := c1
              simp only [Bool.and_eq_true, decide_eq_true_eq] at c1'
              obtain ⟨ca, cb⟩ := c1'
              clear c1
              go_wp2_with fail
              refine (HI.out g c tl d1 N a u mid w0 _ (by omega) hW HRL.out ca cb (by omega) hl).mono ?_
              rintro e1 w1 ⟨rfl, d2, hW1, hM⟩
              have HM := hid hM
              clear hM
              go_wp2_with fail
              go_meet
              exact ⟨d2, HM, hW1⟩
            | false =>
              have HM : Hid (Mg d1 a u mid d1) := Mg.triv _ _ _ _ (by
                simp only [Bool.and_eq_false_iff, decide_eq_false_iff_not] at c1
                omega)
              clear c1
              go_wp2_with fail
              go_meet
              exact ⟨d1, HM, hW⟩
          case rest =>
            obtain ⟨d2, HM1, hW⟩ := hcut
            have HRL2 : Hid (d2.length = N) := by rw [← HRL.out]; exact HM1.out.win.len
            go_upto_region 43 with fail
            go_cut [213] (fun sb wx => sb = .bool (decide (mid < e) && decide (e < b)) ∧ SWr g tl w0 d2 wx)
            case first =>
              go_wp2_with fail
              all_goals (go_meet; exact ⟨by simp [*], hW⟩)
            case rest =>
              obtain ⟨rfl, hW⟩ := hcut
              cases c1 : (decide (mid < e) && decide (e < b)) with
              | true =>
                as_aux_lemma =>
                have c1' := c1
                simp only [Bool.and_eq_true, decide_eq_true_eq] at c1'
                obtain ⟨ca, cb⟩ := c1'
                clear c1
                go_wp2_with fail
                refine (HI.out g c tl d2 N mid e b w0 _ (by omega) hW HRL2.out ca cb hb hl).mono ?_
                rintro e1 w1 ⟨rfl, d3, hW1, hM⟩
                have HM := hid (HB.out d2 d3 HM1.out hM)
                clear hM
                go_wp2
                go_end0
                exact ⟨rfl, d3, hW1, HM.out⟩
              | false =>
                as_aux_lemma =>
                have HM : Hid (Mg d a m b d2) := HB.out d2 d2 HM1.out (Mg.triv _ _ _ _ (by
                  simp only [Bool.and_eq_false_iff, decide_eq_false_iff_not] at c1
                  omega))
                clear c1
                go_wp2
                go_end0
                exact ⟨rfl, d2, hW, HM.out⟩

theorem symMerge_all (n : Nat) : SymAt n := by
  induction n with
  | zero => intro g c tl d N a m b w0 w hn _ _ ha hm; omega
  | succ n ih =>
    intro g c tl d N a m b w0 w hn hW hN ha hm hb hl
    by_cases h1 : m = a + 1
    · exact symMerge_one g c tl d N a m b w0 w hW hN h1 hm hb hl
    · by_cases h2 : b = m + 1
      · exact symMerge_last g c tl d N a m b w0 w hW hN ha h1 h2 hb hl
      · by_cases h3 : (a + b) / 2 < m
        · exact symMerge_A n ih g c tl d N a m b w0 w hn hW hN ha hm h1 h2 hb hl h3
        · exact symMerge_B n ih g c tl d N a m b w0 w hn hW hN ha hm h1 h2 hb hl (by omega)
theorem symMerge_any (g c : Nat) (tl : List Value) (d : List El) (N a m b : Nat) (w0 w : World) (hW : SWr g tl w0 d w) (hN : d.length = N) (ha : a < m) (hm : m < b) (hb : b ≤ N) (hl : N ≤ 4611686018427387903) :
    Calls Tryd.prog 164 #[.slice (some ⟨g, 0, none⟩) N c, .int .i64 a, .int .i64 m, .int .i64 b, cmpV] w fun e w' => e = .returned (.tuple #[]) ∧ ∃ d', SWr g tl w0 d' w' ∧ Mg d a m b d' :=
  symMerge_all (b - a) g c tl d N a m b w0 w (Nat.le_refl _) hW hN ha hm hb hl
end Go.Proofs.YtbogcknkkbnfnaaDoor

/- The walk of the law BlocksAbove: without the block right above it a block is not reached; without any other one that does not stand above that, and is not itself, it is. -/
import Derived.Test.YthjjkpkohhmgcaaYg
namespace Go.Proofs.Ythjjkpkohhmgcaa.blocksAbove
open Go.ChangeShapes Go.WideShapes Go.ChangeAt Go.RowKit
open Go.Proofs.Ythjjkpkohhmgcaa Go.Proofs.YthjjkpkohhmgcaaW.PrintWords Go.Proofs.Ythjjkpkohhmgcaa.Dom

theorem eqb (a b : Nat) : ((a : Int) == (b : Int)) = decide (a = b) := by
  rw [Bool.eq_iff_iff]; simp only [beq_iff_eq, decide_eq_true_eq]; omega
set_option maxRecDepth 100000 in
set_option maxHeartbeats 8000000 in
theorem walk (A : Option Addr) (l : List Bk) (c : Nat) (w : World) (_ : l.length ≤ c) (hC : kB.C w A l.length l) (hg : gBks l) : Calls Try.prog 7 #[.slice A l.length c] w fun e w' => e = .returned (.bool true) ∧ Below w.heap.size w w' := by
  have hb := bks_len hg
  have HWK := hid (works_any w)
  have HC := hid hC
  have HB := hid hb
  obtain ⟨n, hn⟩ : ∃ n, l.length = n := ⟨_, rfl⟩
  have HN := hid hn
  by_cases h60 : 60 < n
  · have l1 : (60 : Int) < n := by omega
    rw [hn]
    clear hC hg hn
    go_enter Try.func7, Try.ntmps7
    go_wp2_with (go_at_call 9; refine HWK.out.mono ?_; rintro e w1 ⟨rfl, hB⟩; have HB1 := hid hB; clear hB)
    go_ret
    exact ⟨rfl, HB1.out⟩
  have l1 : ¬ ((60 : Int) < n) := by omega
  obtain ⟨z, hz⟩ : ∃ z, checkE l = z := ⟨_, rfl⟩
  by_cases hz0 : z = 0
  · subst hz0
    have HM := hid ((checkE_may l).1 hz)
    have HT : Hid (Look.Told (gB l) l.length (lookS l)) := Look.look_law HM.out.lt HM.out.pos (Nat.le_refl _)
    have HA := hid (fun (W : World) (hW : Below w.heap.size w W) => above_ok (c := c) (Kd.C_below HC.out hW) HB.out hz)
    have HFR := hid (fun (W : World) (hW : Below w.heap.size w W) => from_any A c l W l.length (-1) (Kd.C_below HC.out hW) HM.out (.inl ⟨rfl, Nat.le_refl _⟩))
    have HFD := hid (fun (W : World) (hW : Below w.heap.size w W) (d : Nat) (hd : d < l.length) => from_any A c l W d d (Kd.C_below HC.out hW) HM.out (.inr ⟨rfl, hd⟩))
    have hn0 : 0 < n := by rw [← hn]; exact HM.out.pos
    have HDL := hid (show ∀ x, x ∈ (lookS l).done → x < n by intro x hx; rw [← hn]; exact HT.out.lt x hx)
    have HPL := hid (show ∀ x, x ∈ (lookS l).done → plc (lookS l) x < n by
      intro x hx
      have h1 := plc_lt hx
      have h2 := nodup_len n _ HT.out.once HDL.out
      omega)
    rw [hn] at HA HFR HFD HC ⊢
    clear hC hg hn hz hb
    go_enter Try.func7, Try.ntmps7
    go_upto_region 3 with (go_at_call 9; refine HWK.out.mono ?_; rintro e w1 ⟨rfl, hB⟩; have HB1 := hid hB; clear hB)
    go_upto_region 6 with (go_at_call 16; refine (HA.out _ HB1.out).mono ?_; rintro e w2 ⟨g, c1, F, up, rfl, hF, hU, hB⟩; have HFx := hid hF; have HU := hid hU; have HB2 := hid (below_step HB1.out hB); clear hF hU hB)
    have hup0 : up 0 = none := by
      cases e : up 0 with
      | none => rfl
      | some o => exact absurd rfl (HU.out.tell 0 o e).2.2.1
    have c0 := HFx.out 0 hn0
    rw [HU.out.bare 0 hup0] at c0
    have l0 : (0 : Int) < n := by omega
    have HF1 := hid (show ∀ b, -1 ≤ F b ∧ F b < n by
      intro b
      cases e : up b with
      | none => rw [HU.out.bare b e]; omega
      | some o =>
        obtain ⟨h1, _, _, h4, _⟩ := HU.out.tell b o e
        have := HDL.out o h4
        rw [h1]; omega)
    go_upto_region 11 with fail
    clear c0
    go_loopw [5] (fun iV wr => ∃ k : Nat, k ≤ n ∧ iV = .int .i64 k ∧ Hid (Below w2.heap.size w2 wr)) (fun iV _ => n - (intOf iV).toNat)
    case atStart => exact ⟨0, by omega, rfl, Below.refl _ _⟩
    obtain ⟨k, hk, rfl, HI⟩ := hrel
    by_cases hkn : k < n
    · have lk : (k : Int) < n := by omega
      have y0 := (HI.out.cell (World.block_lt_of_cell? w2 _ (HFx.out k hkn))).trans (HFx.out k hkn)
      obtain ⟨f1, f2⟩ := HF1.out k
      have f1' : ¬ (F k < -1) := by omega
      have f2' : ¬ ((n : Int) ≤ F k) := by omega
      clear f1 f2
      go_wp2_with fail
      go_roundw
      case rel => exact ⟨k + 1, by omega, by go_num, HI⟩
      case measure => simp [intOf]; omega
    obtain rfl : n = k := by omega
    have HFy := hid (fun x (hx : x < n) => (HI.out.cell (World.block_lt_of_cell? w2 _ (HFx.out x hx))).trans (HFx.out x hx))
    have HBx := hid (below_step HB2.out HI.out)
    go_upto_region 16 with (go_at_call 22; refine (HFR.out _ HBx.out).mono ?_; rintro e w3 ⟨gs, p, rfl, hgs, hrow, hB, hp⟩; have HP := hid hp; have HRS := hid hrow; have HBy := hid hB; have HB3 := hid (below_step HBx.out hB); clear hgs hrow hB hp)
    have HFz := hid (fun x (hx : x < n) => (HBy.out.cell (World.block_lt_of_cell? wr _ (HFy.out x hx))).trans (HFy.out x hx))
    have HPO := hid (show ∀ b, p b = true ↔ b ∈ (lookS l).done by
      intro b
      rw [HP.out, HT.out.mem]
      exact ⟨av_reach, fun h => reach_av h (fun y hy e => by have := HDL.out y ((HT.out.mem y).2 hy); omega)⟩)
    clear HFx HFy HI HP HA HFR HWK HBy
    go_upto_region 18 with fail
    go_loopw [7, 8] (fun vV iV wr => ∃ (k : Nat) (G : Nat → Nat) (P : Nat → Nat → Bool), k ≤ n ∧ iV = .int .i64 k ∧ Hid (WO w3 n k G P vV wr) ∧ Hid (∀ d, d < k → ∀ b, P d b = true ↔ Av (fun a b => b ∈ gB l a) d b)) (fun _ iV _ => n - (intOf iV).toNat)
    case atStart => exact ⟨0, fun _ => 0, fun _ _ => false, by omega, rfl, WO.start _ _ _ _, fun d h => absurd h (Nat.not_lt_zero _)⟩
    obtain ⟨k, G, P, hk, rfl, HI, HQ⟩ := hrel
    by_cases hkn : k < n
    · have lk : (k : Int) < n := by omega
      have HFK := hid (HFD.out _ (below_step HB3.out HI.out.below) k hkn)
      obtain ⟨A7, n7, c7, e7⟩ := R_sl HI.out.row
      subst e7
      go_wp2_with (first | (go_at_call 22; refine HFK.out.mono ?_; rintro e w5 ⟨g5, p5, rfl, hgs, hrow, hB, hp⟩; have HP5 := hid hp; have HR5 := hid hrow; have HI5 := hid (HI.out.step hB); clear hgs hrow hB hp) | (at_builtin; refine Kd.R_append kRaw w3.heap.size rfl (.tmp 68) (.tmp 72) 49 43 _ 24 rfl Try.underlying49 infoBools rfl (by decide) (by decide) _ ((List.range k).map fun d => (⟨some ⟨G d, 0, none⟩, n, n⟩ : Sl)) ⟨some ⟨g5, 0, none⟩, n, n⟩ [.slice (some ⟨g5, 0, none⟩) n n] (fun _ => True) (fun _ => False) rfl rfl rfl (fun _ h => h.elim) (fun _ _ => trivial) HI5.out.row HI5.out.below HI5.out.below.size (by rw [List.length_map, List.length_range]; omega) ?_; intro v1 w6 hR1 hB1 hG1 _; have HI6 := hid (HI5.out.push HR5.out hR1 hB1 hG1); clear hR1 hB1 hG1))
      go_roundw
      case rel => exact ⟨k + 1, _, _, by omega, by go_num, HI6, fun d hd b => by
        by_cases e : d = k
        · subst e; simp only [if_true]; exact HP5.out b
        · simp only [if_neg e]; exact HQ.out d (by omega) b⟩
      case measure => simp [intOf]; omega
    obtain rfl : n = k := by omega
    obtain ⟨A7, c7, e7⟩ := Kd.R_slice HI.out.row
    subst e7
    rw [List.length_map, List.length_range] at HI ⊢
    obtain ⟨wZ, rfl⟩ : ∃ x : World, x = wr := ⟨_, rfl⟩
    have hC7 := (Kd.R_reads' HI.out.row).2.2
    rw [List.length_map, List.length_range] at hC7
    obtain ⟨b7, o7, e7⟩ := C_plain hC7 hn0 (by decide)
    subst e7
    have HC7 := hid (show ∀ W, Below wZ.heap.size wZ W → ∀ d, d < n → W.cell? ⟨b7, o7 + d, none⟩ = some (.slice (some ⟨G d, 0, none⟩) n n) by
      intro W hB d hd
      have := C_scalar (h1 := fun _ => rfl) (Kd.C_below hC7 hB) ⟨none, 0, 0⟩ d (by simpa using hd)
      rw [this]
      simp [List.getD, hd, Sl.v])
    have HP7 := hid (show ∀ W, Below wZ.heap.size wZ W → ∀ d, d < n → ∀ b, b < n → W.cell? ⟨G d, b, none⟩ = some (.bool (P d b)) by
      intro W hB d hd b hb
      rw [blk_cell (blk_below (HI.out.each d hd) hB), bRow_get _ hb])
    have HF7 := hid (show ∀ W, Below wZ.heap.size wZ W → ∀ x, x < n → W.cell? ⟨g, x, none⟩ = some (.int .i64 (F x)) by
      intro W hB x hx
      have h1 := (HI.out.below.cell (World.block_lt_of_cell? w3 _ (HFz.out x hx))).trans (HFz.out x hx)
      exact (hB.cell (World.block_lt_of_cell? wZ _ h1)).trans h1)
    have HS7 := hid (show ∀ W, Below wZ.heap.size wZ W → ∀ b, b < n → W.cell? ⟨gs, b, none⟩ = some (.bool (p b)) by
      intro W hB b hb
      rw [blk_cell (blk_below (blk_below HRS.out HI.out.below) hB), bRow_get _ hb])
    have HBZ := hid (below_step HB3.out HI.out.below)
    clear hC7 HRS HFz HFD HI
    go_upto_region 22 with fail
    go_loopw [9] (fun bV wr => ∃ b : Nat, 1 ≤ b ∧ b ≤ n ∧ bV = .int .i64 b ∧ Hid (Below wZ.heap.size wZ wr)) (fun bV _ => n - (intOf bV).toNat)
    case atStart => exact ⟨1, by omega, by omega, rfl, Below.refl _ _⟩
    obtain ⟨b, hb1, hbn', rfl, HR⟩ := hrel
    by_cases hbn : b < n
    · have lb : (b : Int) < n := by omega
      have y0 := HF7.out wr HR.out b hbn
      have y1 := HS7.out wr HR.out b hbn
      have hdec : (decide (0 ≤ F b) == p b) = true ∧ (F b == (b : Int)) = false := by
        by_cases hO : b ∈ (lookS l).done
        · obtain ⟨o, e⟩ := HU.out.set b hO (by omega)
          obtain ⟨h1, _, _, _, h5⟩ := HU.out.tell b o e
          rw [h1, (HPO.out b).2 hO]
          refine ⟨by simp, ?_⟩
          simp only [beq_eq_false_iff_ne]
          intro e2
          have : o = b := by omega
          subst this
          omega
        · have : p b = false := by rw [← Bool.not_eq_true, HPO.out]; exact hO
          have e : up b = none := by
            cases e : up b with
            | none => rfl
            | some o => exact absurd (HU.out.tell b o e).2.1 hO
          rw [HU.out.bare b e, this]
          refine ⟨rfl, ?_⟩
          simp only [beq_eq_false_iff_ne]
          omega
      obtain ⟨hd1, hd2⟩ := hdec
      go_wp2_with fail
      go_quiet (fail)
      have HR1 := hid (below_step HR.out (below_drewN' wr nq))
      clear y0 y1 HR
      go_wp2_with fail
      generalize World.drewN _ _ = w8 at *
      go_loopw [10] (fun dV wr => ∃ d : Nat, d ≤ n ∧ dV = .int .i64 d ∧ Hid (Below wZ.heap.size wZ wr)) (fun dV _ => n - (intOf dV).toNat)
      case atStart => exact ⟨0, by omega, rfl, HR1⟩
      obtain ⟨d, hd, rfl, HD⟩ := hrel
      clear HR1
      have s0 := HS7.out wr HD.out b hbn
      by_cases hbO : b ∈ (lookS l).done
      case neg =>
        have HE := hid (show p b = false by rw [← Bool.not_eq_true, HPO.out]; exact hbO)
        rw [HE.out] at s0
        by_cases hdn : d < n
        case' pos => have ld : (d : Int) < n := by omega
        case' neg => have ld : ¬ ((d : Int) < n) := by omega
        all_goals
          go_wp2_with fail
          go_roundw
          case rel => exact ⟨b + 1, by omega, by omega, by go_num, HD⟩
          case measure => simp [intOf]; omega
      have HBO := hid hbO
      rw [(HPO.out b).2 hbO] at s0
      clear hbO
      by_cases hdn : d < n
      case neg =>
        have ld : ¬ ((d : Int) < n) := by omega
        go_wp2_with fail
        go_roundw
        case rel => exact ⟨b + 1, by omega, by omega, by go_num, HD⟩
        case measure => simp [intOf]; omega
      have ld : (d : Int) < n := by omega
      go_upto_region 32 with fail
      clear s0
      go_loopw [11, 12, 13] (fun sV xV iV wr => ∃ x i : Nat, sV = .bool (decide (x = d)) ∧ xV = .int .i64 x ∧ iV = .int .i64 i ∧ Hid (Way l up d b x i) ∧ Hid (Below wZ.heap.size wZ wr)) (fun _ _ iV _ => n - (intOf iV).toNat)
      case atStart => exact ⟨b, 0, by rw [eqb]; exact congrArg Value.bool (by rw [Bool.eq_iff_iff]; simp only [decide_eq_true_eq]; exact eq_comm), rfl, rfl, Way.start HBO.out, HD⟩
      obtain ⟨x, i, rfl, rfl, rfl, HW, HX⟩ := hrel
      clear HD
      have hin : i < n := by have := HW.out.le; have := HPL.out b HBO.out; omega
      have li : (i : Int) < n := by omega
      have hxn := HDL.out x HW.out.R
      have c7' := HC7.out wr HX.out d hdn
      have p7 := HP7.out wr HX.out d hdn b hbn
      by_cases hxd : x = d
      · have HE := hid (show P d b = false by
          rw [← Bool.not_eq_true, HQ.out d hdn b]
          intro h
          exact (HU.out.anc b d HBO.out).1 (by have := HW.out; rw [hxd] at this; exact this.hit) h)
        rw [HE.out] at p7
        rw [show decide (x = d) = true from decide_eq_true hxd]
        clear hxd
        by_cases hx0 : x = 0
        case' pos => have lx : ¬ ((0 : Int) < x) := by omega
        case' neg => have lx : (0 : Int) < x := by omega
        all_goals
          clear hx0
          go_wp2_with fail
          go_roundw
          case rel => exact ⟨d + 1, by omega, by go_num, HX⟩
          case measure => simp [intOf]; omega
      rw [show decide (x = d) = false from decide_eq_false hxd]
      by_cases hx0 : x = 0
      · have HE := hid (show P d b = true by
          rw [HQ.out d hdn b]
          apply Classical.byContradiction
          intro h
          have h1 := (HU.out.anc b d HBO.out).2 h
          have h2 := HW.out
          rw [hx0] at h2
          exact h2.out HU.out (by omega) h1)
        rw [HE.out] at p7
        have lx : ¬ ((0 : Int) < x) := by omega
        clear hx0 hxd
        go_wp2_with fail
        go_roundw
        case rel => exact ⟨d + 1, by omega, by go_num, HX⟩
        case measure => simp [intOf]; omega
      · obtain ⟨o, _, hFo, HW2⟩ := HW.out.go HU.out hxd hx0
        have HW2 := hid HW2
        have y0 := HF7.out wr HX.out x hxn
        rw [hFo] at y0
        have lx : (0 : Int) < x := by omega
        have lxn : (x : Int) < n := by omega
        clear hx0 hxd hFo p7 c7'
        go_wp2_with fail
        go_roundw
        case rel => exact ⟨o, i + 1, by rw [eqb], rfl, by go_num, HW2, HX⟩
        case measure => simp [intOf]; omega
    · obtain rfl : n = b := by omega
      go_wp2_with fail
      go_ret
      exact ⟨rfl, HBZ.out.trans (HR.out.mono HBZ.out.size)⟩
  · have HE1 := hid (fun (W : World) (hW : Below w.heap.size w W) => above_err (c := c) (Kd.C_below HC.out hW) HB.out (by rw [hz]; exact hz0))
    rw [hn, hz] at HE1
    rw [hn]
    have b1 : (z != 0) = true := by simp [hz0]
    clear hC hg hn hz hb hz0
    go_enter Try.func7, Try.ntmps7
    go_upto_region 3 with (go_at_call 9; refine HWK.out.mono ?_; rintro e w1 ⟨rfl, hB⟩; have HB1 := hid hB; clear hB)
    go_wp2_with (go_at_call 16; refine (HE1.out _ HB1.out).mono ?_; rintro e w2 ⟨rfl, hB⟩; have HB2 := hid (below_step HB1.out hB); clear hB)
    go_ret
    exact ⟨rfl, HB2.out⟩
set_option maxRecDepth 100000 in
theorem lifted (os : Os) (started : os.Started) (H : Type) (enc : TypeId × Value → H) :
    ReturnsInHanded {} Try.checked os 7 .any (Rows.blocksAboveSpec.pre6 enc Try.prog Try.f7 Rows.blocksAboveRow.domain false)
      (Rows.blocksAboveSpec.post enc Try.prog Try.f7 false true false false) := by
  refine returnsInHanded_of_change_sized (C := Try.checked) own started (by kernel_rfl) Try.func7
    (ChangeSpec.witness6 (enc := enc) (C := Try.checked) false ⟨#[], #[.slice none 0 0], []⟩ 8 (by kernel_rfl) (by kernel_rfl) (by kernel_rfl) (by kernel_rfl)) ?_
  intro W base args ds gs before hval0 hW hcnd hsz0 _
  have hval : ∀ (j : Nat) t v, Try.f7.params[j]? = some t → args[j]? = some v → Value.okWide Try.prog W .any base t v := hval0
  have hsz : (DataW.weightsEach Try.prog (Try.f7.params.toList ++ Rows.blocksAboveSpec.plain.varTypes Try.prog) (ds ++ gs)).all (· ≤ reachBytes) = true := hsz0
  have hW' := hW
  obtain ⟨p, q, hA0, hV, rfl, hfz, hnd⟩ := hW
  have hA : DataW.TrodAll enc Try.prog W 0 (fun _ => true) true Try.f7.params.toList args.toList ds p := hA0
  rw [Try.params7] at hA hval hsz
  obtain ⟨v0, vs0, d0, ds0, p0, q0, hargs, rfl, rfl, h0, r0⟩ := trodAll_cons hA
  obtain ⟨rfl, rfl, rfl⟩ := trodAll_nil r0
  obtain rfl : args = #[v0] := by cases args; simp_all
  obtain ⟨rfl, rfl⟩ := trodVars_none hV
  have y0 := h0
  obtain ⟨A0, l0, c0, rfl, k0, C0, g0⟩ := openBks (hval 0 22 v0 rfl rfl) h0 (Op.weights_of hsz (j := 0) rfl rfl)
  clear hA0 hval0 hsz0 hsz
  refine (walk A0 l0 c0 W k0 C0 g0).mono fun e W' ⟨he, bel⟩ => ?_
  subst he
  exact ⟨_, rfl, _, _, _, [], _, [], hW', trodAll_mk1 (shut_bool Try.underlying4 _), (trodAll_cons_mk (Below.trod laidOut (by kernel_rfl) (of_decide_eq_true (by kernel_rfl)) y0 bel (Op.trod_places y0)) trodAll_mk0), rfl, bel.frame _, fun h => by cases h⟩

theorem over : Rows.BlocksAboveSaid :=
  OpenClaim.holds_of_wide 7 Try.f7 rfl rfl rfl rfl rfl rfl rfl ⟨rfl, rfl, rfl, rfl, rfl⟩ rfl rfl rfl rfl rfl (by kernel_rfl) Try.func7 (by kernel_rfl)
    (of_decide_eq_true (by kernel_rfl)) (by unfold Func.isWrapper; first | (rw [if_pos (by decide +kernel)]; kernel_rfl) | (rw [if_neg (by decide +kernel)]; exact ⟨rfl, rfl⟩))
    (fun os started H enc _ => lifted os started H enc)

end Go.Proofs.Ythjjkpkohhmgcaa.blocksAbove

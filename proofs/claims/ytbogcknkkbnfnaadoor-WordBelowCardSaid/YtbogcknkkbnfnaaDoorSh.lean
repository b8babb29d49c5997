/- The law WordBelow: a word that is a reference fits its own type, Object, and all types below which that one stands; no int, no long. -/
import Derived.Test.YtbogcknkkbnfnaaDoorU6
import Derived.Carry
import Derived.ShutString
import Derived.ChangeOld
import Derived.SizedLaws
namespace Go.Proofs.YtbogcknkkbnfnaaDoor.wordBelow
open Go.ChangeShapes Go.WideShapes Go.ChangeAt Go.RowKit
open Go.ChangeMaps (open_string shut_string)
open Go.Proofs.YtbogcknkkbnfnaaDoor Go.Proofs.YtbogcknkkbnfnaaDoorW.PrintWords

set_option maxRecDepth 100000 in
set_option maxHeartbeats 4000000 in
theorem walk (A : Option Addr) (l : List Cl) (c : Nat) (a b : Int × ByteArray) (w : World) (hS : Bi w ∧ Wob w) (_ : l.length ≤ c) (hC : kCl.C w A l.length l) (hg : gCls l) (ga : gT2 a) (gb : gT2 b) :
    Calls Tryd.prog 3 #[.slice A l.length c, .agg #[.int .i64 a.1, .string a.2], .agg #[.int .i64 b.1, .string b.2]] w fun e w' => e = .returned (.bool true) ∧ Below w.heap.size w w' := by
  obtain ⟨hok, hb, hb2⟩ := gCls_ok hg
  obtain ⟨ak, an⟩ := a
  obtain ⟨bk, bn'⟩ := b
  have ha : an.size ≤ 9223372036854775807 := by have : an.size ≤ 140737488351232 := ga.2; omega
  have hbn : bn'.size ≤ 9223372036854775807 := by have : bn'.size ≤ 140737488351232 := gb.2; omega
  obtain ⟨n, hn⟩ : ∃ n, l.length = n := ⟨_, rfl⟩
  rw [hn] at hb hb2 hC ⊢
  have HB1 := hid (below_alloc (below_alloc (Below.refl w.heap.size w) (.cells #[.int .i64 ak, .string an] 24)) (.cells #[.int .i64 bk, .string bn'] 24))
  have K1 := hid (blk_alloc (blk_new w (.cells #[.int .i64 ak, .string an] 24)) (.cells #[.int .i64 bk, .string bn'] 24))
  have K2 := hid (blk_new2 w (.cells #[.int .i64 ak, .string an] 24) (.cells #[.int .i64 bk, .string bn'] 24))
  have HBI := hid (fun (W : World) (hW : Below w.heap.size w W) => hS.1.below hS.1.lt hW)
  have HOW := hid (fun (W : World) (hW : Below w.heap.size w W) => hS.2.below hS.2.lt hW)
  have HC1 := hid (Kd.C_below hC HB1.out)
  have HN := hid hn
  have HOK := hid hok
  have HA := hid ha
  have HBN := hid hbn
  have HAW := hid (fun (W : World) (hW : Below w.heap.size w W) => wawake_any W (HBI.out W hW) (HOW.out W hW))
  clear hok hn hC hg hS ga gb ha hbn
  go_enter Tryd.func3, Tryd.ntmps3
  go_upto_region 1 with fail
  generalize (w.alloc (.cells #[.int .i64 ak, .string an] 24)).alloc (.cells #[.int .i64 bk, .string bn'] 24) = w1 at *
  have HST := hid (sets_any A c n l HN.out w1 (HBI.out _ HB1.out) HC1.out hb2 HOK.out)
  go_upto_region 2 with (go_at_call 10; refine HST.out.mono ?_; rintro e w2 ⟨hB2, hE⟩; have HBx := hid hB2; have HB2 := hid (below_weaken HB1.out HB1.out.size hB2); clear hB2; rcases hE with ⟨_, rfl⟩ | ⟨r, p, pm, hs, hne, hl64, rfl, hIS, hRS⟩)
  · go_wp2_with (go_at_call 12; refine (HAW.out _ HB2.out).mono ?_; rintro e w3 ⟨rfl, hB⟩; have HB3 := hid (below_weaken HB2.out HB2.out.size hB); clear hB)
    go_ret
    exact ⟨rfl, HB3.out⟩
  · have N := hid (named_of hne)
    have HS := hid hIS
    clear hs hne hIS hRS hl64
    generalize builtL ++ r = L at *
    have c0 := blk_cell (blk_below K1.out HBx.out) 0
    have c1 := blk_cell (blk_below K1.out HBx.out) 1
    by_cases h3 : ak < 3
    · go_wp2_with (go_at_call 12; refine (HAW.out _ HB2.out).mono ?_; rintro e w3 ⟨rfl, hB⟩; have HB3 := hid (below_weaken HB2.out HB2.out.size hB); clear hB)
      go_ret
      exact ⟨rfl, HB3.out⟩
    · obtain ⟨my, hmy⟩ : ∃ x, mayT L ak an = x := ⟨_, rfl⟩
      have HMT := hid (show Calls Tryd.prog 11 #[.pointer (some ⟨p, 0, none⟩), .agg #[.int .i64 ak, .string an]] w2 fun e w' => e = .returned (.bool my) ∧ Below w2.heap.size w2 w' from by
        have := sMay_any HS.out ak an HA.out
        rw [hmy] at this
        exact this)
      cases my with
      | false =>
        clear hmy
        go_wp2_with (first
          | (go_at_call 11; refine HMT.out.mono ?_; rintro e w3 ⟨rfl, hB⟩; have HB3 := hid (below_weaken HB2.out HB2.out.size hB); clear hB)
          | (go_at_call 12; refine (HAW.out _ HB3.out).mono ?_; rintro e w4 ⟨rfl, hB⟩; have HB4 := hid (below_weaken HB3.out HB3.out.size hB); clear hB))
        go_ret
        exact ⟨rfl, HB4.out⟩
      | true =>
        have hk : ak = 3 ∨ ak = 4 ∨ ak = 5 ∨ ak = 6 := by
          have h := hmy
          unfold mayT at h
          split at h
          · omega
          · rw [Bool.and_eq_true, decide_eq_true_eq] at h; omega
        have F1 := hid (below_own (L := L) (show 3 ≤ ak by omega) hmy)
        have F2 := hid (below_obj N.out (show 3 ≤ ak by omega) hmy)
        have HOF := hid (fun W => of_ref ak an hk W)
        have hd : decide (ak < 3) = false := decide_eq_false h3
        clear hmy hk h3
        go_upto_region 5 with (first
          | (go_at_call 11; refine HMT.out.mono ?_; rintro e w3 ⟨rfl, hB⟩; have HBy := hid (bel_tr (a := w1) HBx.out hB); have HBz := hid hB; have HB3 := hid (below_weaken HB2.out HB2.out.size hB); clear hB; have u0 := blk_cell (blk_below K1.out HBy.out) 0; have u1 := blk_cell (blk_below K1.out HBy.out) 1)
          | (go_at_call 13; refine (HOF.out _).mono ?_; rintro e w4 ⟨g, rfl, hg, hB⟩; have HG := hid hg; have HS4 := hid (HS.out.step (bel_tr (a := w2) HBz.out hB)); have HBw := hid (bel_tr (a := w1) HBy.out hB); have HB4 := hid (below_weaken HB3.out HB3.out.size hB); clear hB hg))
        have HFT := hid (fun (tk : Int) (tn : ByteArray) (v : Bool) (W : World) (hW : Below w4.heap.size w4 W) (q : (tk = ak ∧ tn = an ∧ v = true) ∨ (tk = 3 ∧ tn = ⟨#[79, 98, 106, 101, 99, 116]⟩ ∧ v = true) ∨ (tk = 1 ∧ tn = ⟨#[]⟩ ∧ v = false) ∨ (tk = 2 ∧ tn = ⟨#[]⟩ ∧ v = false)) => (show Calls Tryd.prog 14 #[.pointer (some ⟨p, 0, none⟩), .agg #[.int .i64 5, .int .i64 ak, .string an], .agg #[.int .i64 tk, .string tn]] W fun e w' => e = .returned (.bool v) ∧ Below W.heap.size W w' from by
          have key : ∀ (tk : Int) (tn : ByteArray), tn.size ≤ 9223372036854775807 → _ := fun tk tn ht => fits_any (HS4.out.step hW) ⟨5, ak, an⟩ tk tn HA.out ht
          rcases q with ⟨e1, e2, e3⟩ | ⟨e1, e2, e3⟩ | ⟨e1, e2, e3⟩ | ⟨e1, e2, e3⟩ <;> rw [e1, e2, e3]
          · have := key ak an HA.out
            rw [F1.out] at this
            exact this
          · have := key 3 ⟨#[79, 98, 106, 101, 99, 116]⟩ (by decide +kernel)
            rw [F2.out] at this
            exact this
          · have := key 1 ⟨#[]⟩ (by decide +kernel)
            rw [below_int] at this
            exact this
          · have := key 2 ⟨#[]⟩ (by decide +kernel)
            rw [below_long] at this
            exact this))
        clear c0 c1 u0 u1
        have x0 : ∀ W, (ov w4 W).cell? ⟨g, 0, none⟩ = some (.int .i64 5) := ov_cell (blk_cell HG.out 0)
        have x1 : ∀ W, (ov w4 W).cell? ⟨g, 1, none⟩ = some (.int .i64 ak) := ov_cell (blk_cell HG.out 1)
        have x2 : ∀ W, (ov w4 W).cell? ⟨g, 2, none⟩ = some (.string an) := ov_cell (blk_cell HG.out 2)
        have y0 : ∀ W, (ov w4 W).cell? ⟨w.heap.size, 0, none⟩ = some (.int .i64 ak) := ov_cell (blk_cell (blk_below K1.out HBw.out) 0)
        have y1 : ∀ W, (ov w4 W).cell? ⟨w.heap.size, 1, none⟩ = some (.string an) := ov_cell (blk_cell (blk_below K1.out HBw.out) 1)
        have z0 : ∀ W, (ov w4 W).cell? ⟨w.heap.size + 1, 0, none⟩ = some (.int .i64 bk) := ov_cell (blk_cell (blk_below K2.out HBw.out) 0)
        have z1 : ∀ W, (ov w4 W).cell? ⟨w.heap.size + 1, 1, none⟩ = some (.string bn') := ov_cell (blk_cell (blk_below K2.out HBw.out) 1)
        refine wp_region_ov (w0 := w4) (by kernel_rfl) (by kernel_rfl) (Below.refl _ _) ?_
        repeat (first | go_big_quiet_skip | (go_big_quiet_want; go_big_quiet_op; first | go_big_quiet_on | (apply Exists.intro; refine ⟨fun WW => ?_, ?_⟩; (go_at_call 14; exact calls_ov (HFT.out _ _ _ _ (ov_below _ _) (by first | exact .inl ⟨rfl, rfl, rfl⟩ | exact .inr (.inl ⟨rfl, rfl, rfl⟩) | exact .inr (.inr (.inl ⟨rfl, rfl, rfl⟩)) | exact .inr (.inr (.inr ⟨rfl, rfl, rfl⟩))))); go_big_quiet_on)))
        refine wpQuiet_nil ?_
        rintro _ ⟨WQ, rfl⟩
        have HX := hid (ov_below w4 WQ)
        obtain ⟨bl, hbl⟩ : ∃ x, belT L ak an bk bn' = x := ⟨_, rfl⟩
        have HFB := hid (fun (W : World) (hW : Below w4.heap.size w4 W) => (show Calls Tryd.prog 14 #[.pointer (some ⟨p, 0, none⟩), .agg #[.int .i64 5, .int .i64 ak, .string an], .agg #[.int .i64 bk, .string bn']] W fun e w' => e = .returned (.bool bl) ∧ Below W.heap.size W w' from by
          have := fits_any (HS4.out.step hW) ⟨5, ak, an⟩ bk bn' HA.out HBN.out
          rw [below_any, hbl] at this
          exact this))
        have HBT := hid (fun (W : World) (hW : Below w4.heap.size w4 W) => (show Calls Tryd.prog 15 #[.pointer (some ⟨p, 0, none⟩), .agg #[.int .i64 ak, .string an], .agg #[.int .i64 bk, .string bn']] W fun e w' => e = .returned (.bool bl) ∧ Below W.heap.size W w' from by
          have := sBelT_any (HS4.out.step hW) ak an bk bn' HA.out HBN.out
          rw [hbl] at this
          exact this))
        have HW4 := hid (fun (W : World) (hW : Below w4.heap.size w4 W) => HAW.out W (below_weaken HB4.out HB4.out.size hW))
        have qb : (bl == bl) = true := by simp
        clear hbl
        go_wp2_with fail
        refine wp_region_ov (w0 := w4) (by kernel_rfl) (by kernel_rfl) (HX.out) ?_
        repeat (first | go_big_quiet_skip | (go_big_quiet_want; go_big_quiet_op; first | go_big_quiet_on | (apply Exists.intro; refine ⟨fun WW => ?_, ?_⟩; (first | (go_at_call 14; exact calls_ov (HFB.out _ (ov_below _ _))) | (go_at_call 15; exact calls_ov (HBT.out _ (ov_below _ _))) | (go_at_call 12; exact calls_ov (HW4.out _ (ov_below _ _)))); go_big_quiet_on)))
        refine wpQuiet_nil ?_
        rintro _ ⟨WQ, rfl⟩
        have HY := hid (ov_below w4 WQ)
        go_wp2
        go_ret
        exact ⟨rfl, below_weaken HB4.out HB4.out.size HY.out⟩
set_option maxRecDepth 100000 in
theorem lifted (os : Os) (started : os.Started) (H : Type) (enc : TypeId × Value → H) :
    ReturnsInHanded {} Tryd.checked os 3 .any (fun w args => (Rows.wordBelowSpec.pre enc Tryd.prog Tryd.f3 [] false w args ∧ laidMetH Tryd.prog [("warpbeam/link.builtIn", Rows.laid_warpbeam_link_builtIn), ("warpbeam/word.object", Rows.laid_warpbeam_word_object)] w) ∧ sizedMet enc Tryd.prog Tryd.f3 (OpenSpec.ofChange Rows.wordBelowSpec) false w args)
      (Rows.wordBelowSpec.post enc Tryd.prog Tryd.f3 false true false false) := by
  refine returnsInHanded_of_change_and (C := Tryd.checked) (X := fun w _ => laidMetH Tryd.prog [("warpbeam/link.builtIn", Rows.laid_warpbeam_link_builtIn), ("warpbeam/word.object", Rows.laid_warpbeam_word_object)] w) (fun _ _ _ hh h => h.of_heap hh) own started (by kernel_rfl) Tryd.func3
    (ChangeSpec.witness_shaped (enc := enc) (C := Tryd.checked) (os := os) (X := fun w _ => laidMetH Tryd.prog [("warpbeam/link.builtIn", Rows.laid_warpbeam_link_builtIn), ("warpbeam/word.object", Rows.laid_warpbeam_word_object)] w) false (World.doorLaid Tryd.prog 400 os) #[.slice none 0 0, .agg #[.int .i64 0, .string ByteArray.empty], .agg #[.int .i64 0, .string ByteArray.empty]] 8 rfl (World.shaped_of_RefB (by kernel_rfl) (by kernel_rfl)) (by kernel_rfl) (by kernel_rfl) (by kernel_rfl) (door_met2 os _)) ?_
  intro W base args ds gs before hval0 hW hcnd hsz0 hL _
  have hval : ∀ (j : Nat) t v, Tryd.f3.params[j]? = some t → args[j]? = some v → Value.okWide Tryd.prog W .any base t v := hval0
  have hsz : (DataW.weightsEach Tryd.prog (Tryd.f3.params.toList ++ Rows.wordBelowSpec.plain.varTypes Tryd.prog) (ds ++ gs)).all (· ≤ reachBytes) = true := hsz0
  have hW' := hW
  obtain ⟨p, q, hA0, hV, rfl, hfz, hnd⟩ := hW
  have hA : DataW.TrodAll enc Tryd.prog W 0 (fun _ => true) true Tryd.f3.params.toList args.toList ds p := hA0
  rw [Tryd.params3] at hA hval hsz
  obtain ⟨v0, vs0, d0, ds0, p0, q0, hargs, rfl, rfl, h0, r0⟩ := trodAll_cons hA
  obtain ⟨v1, vs1, d1, ds1, p1, q1, rfl, rfl, rfl, h1, r1⟩ := trodAll_cons r0
  obtain ⟨v2, vs2, d2, ds2, p2, q2, rfl, rfl, rfl, h2, r2⟩ := trodAll_cons r1
  obtain ⟨rfl, rfl, rfl⟩ := trodAll_nil r2
  obtain rfl : args = #[v0, v1, v2] := by cases args; simp_all
  obtain ⟨rfl, rfl⟩ := trodVars_none hV
  have y0 := h0
  obtain ⟨A0, l0, c0, rfl, k0, C0, g0⟩ := openCls (hval 0 22 v0 rfl rfl) h0 (Op.weights_of hsz (j := 0) rfl rfl)
  have y1 := h1
  obtain ⟨t1, rfl, g1⟩ := openT2 (hval 1 24 v1 rfl rfl) h1 (Op.weights_of hsz (j := 1) rfl rfl)
  have y2 := h2
  obtain ⟨t2, rfl, g2⟩ := openT2 (hval 2 24 v2 rfl rfl) h2 (Op.weights_of hsz (j := 2) rfl rfl)
  have hS := bw_of_laid hL
  clear hA0 hval0 hsz0 hsz
  refine (walk A0 l0 c0 t1 t2 W hS k0 C0 g0 g1 g2).mono fun e W' ⟨he, bel⟩ => ?_
  subst he
  exact ⟨_, rfl, _, _, _, [], _, [], hW', trodAll_mk1 (shut_bool Tryd.underlying4 _), (trodAll_cons_mk (Below.trod laidOut (by kernel_rfl) (of_decide_eq_true (by kernel_rfl)) y0 bel (Op.trod_places y0)) (trodAll_cons_mk (Below.trod laidOut (by kernel_rfl) (of_decide_eq_true (by kernel_rfl)) y1 bel (Op.trod_places y1)) (trodAll_cons_mk (Below.trod laidOut (by kernel_rfl) (of_decide_eq_true (by kernel_rfl)) y2 bel (Op.trod_places y2)) trodAll_mk0))), rfl, bel.frame _, fun h => by cases h⟩

theorem over : Rows.WordBelowSaid :=
  OpenClaim.holds_of_wide 3 Tryd.f3 rfl rfl rfl rfl rfl rfl rfl ⟨rfl, rfl, rfl, rfl, rfl⟩ rfl rfl rfl rfl rfl (by kernel_rfl) Tryd.func3 (by kernel_rfl)
    (of_decide_eq_true (by kernel_rfl)) (by unfold Func.isWrapper; first | (rw [if_pos (by decide +kernel)]; kernel_rfl) | (rw [if_neg (by decide +kernel)]; exact ⟨rfl, rfl⟩))
    (fun os started H enc _ => lifted os started H enc)

end Go.Proofs.YtbogcknkkbnfnaaDoor.wordBelow

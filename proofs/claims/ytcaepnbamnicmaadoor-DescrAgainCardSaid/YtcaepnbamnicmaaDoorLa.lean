/- The law DescrAgain: what can be read may be, and is written so: for every text, under the table of signs as the program lays it. -/
import Derived.Test.YtcaepnbamnicmaaDoorRl
import Derived.Test.YtcaepnbamnicmaaDoorDl
import Derived.Test.YtcaepnbamnicmaaDoorPt
import Derived.ShutString
import Derived.ChangeOld
import Derived.SizedLaws
namespace Go.Proofs.YtcaepnbamnicmaaDoor.descrAgain
open Go.ChangeShapes Go.WideShapes Go.ChangeAt Go.RowKit
open Go.ChangeMaps (open_string shut_string)
open Go.Proofs.YtcaepnbamnicmaaDoor Go.Proofs.YtcaepnbamnicmaaDoorW.PrintWords

set_option maxHeartbeats 1000000 in
theorem walkL (l : List UInt8) (w : World) (hS : Sg w) (hl : l.length ≤ 9223372036854775807) :
    Calls Tryd.prog 4 #[.string (tx l)] w fun e w' => e = .returned (.bool true) ∧ Below w.heap.size w w' := by
  have HS := hid hS
  have h0 := hS.lt
  clear hS
  have hs := strEq (tx l)
  cases h1 : typeL l with
  | some t =>
    have h2 := typeL_proto h1
    obtain ⟨ho, hx⟩ := typeL_text h1
    have HT : Hid (typeRes l = .tuple #[.agg #[.int .i64 t.k, .string t.n], .int .i64 0]) := by show typeRes l = _; unfold typeRes; rw [h1]
    have HX : Hid (tyText t = tx l) := by show _ = _; rw [← hx]; exact (tx_of _).symm
    have HO := hid ho
    have H2 := hid h2
    clear h1 h2 ho hx
    go_enter Tryd.func4, Tryd.ntmps4
    go_wp2_with fail
    refine (works_true _ (HS.out)).mono ?_
    rintro e w1 ⟨rfl, hb1⟩
    go_wp2_with fail
    refine (type_any l w1 (HS.out.below h0 hb1) hl).mono ?_
    rintro e w2 ⟨rfl, hb2⟩
    rw [HT.out]
    replace hb1 := below_step hb1 hb2
    clear hb2
    go_wp2_with fail
    have hB3 := below_alloc hb1 (.cells #[.int .i64 t.k, .string t.n] 23)
    have hA3 := blk_new w2 (.cells #[.int .i64 t.k, .string t.n] 23)
    generalize w2.alloc (.cells #[.int .i64 t.k, .string t.n] 23) = W3 at *
    refine (proto_any l W3 (HS.out.below h0 hB3) hl).mono ?_
    intro e w4 hh
    obtain ⟨ha, hb4⟩ := hh
    unfold ProtoAns at ha
    rw [H2.out] at ha
    obtain rfl := ha
    have hB4 := below_step hB3 hb4
    have hA4 := hid (blk_below hA3 hb4)
    clear hb1 hB3 hA3 hb4 W3
    have hc0 := blk_cell hA4.out 0
    have hc1 := blk_cell hA4.out 1
    have hz := blk_lt hA4.out
    generalize w2.heap.size = p2 at *
    clear w2
    go_wp2_with fail
    have hB5 := below_alloc hB4 (.cells #[.int .i64 0, .string ⟨#[]⟩, .slice none 0 0] 29)
    have hA5 := blk_alloc hA4.out (.cells #[.int .i64 0, .string ⟨#[]⟩, .slice none 0 0] 29)
    generalize w4.alloc (.cells #[.int .i64 0, .string ⟨#[]⟩, .slice none 0 0] 29) = W5 at *
    refine (writeType_yes t.k t.n W5 (HS.out.below h0 hB5) HO.out).mono ?_
    intro e w6 hh
    obtain ⟨he, hb6⟩ := hh
    obtain rfl : e = .returned (.tuple #[.string (tx l), .int .i64 0]) := by rw [← HX.out]; exact he
    have hB6 := below_step hB5 hb6
    have hA6 := hid (blk_below hA5 hb6)
    clear hB4 hA4 hB5 hA5 hb6 W5 hc0 hc1 hz
    have hc0 := blk_cell hA6.out 0
    have hc1 := blk_cell hA6.out 1
    have hz := blk_lt hA6.out
    go_wp2_with fail
    refine (checkType_any t w6 (HS.out.below h0 hB6)).mono ?_
    intro e w7 hh
    obtain ⟨he, hb7⟩ := hh
    obtain rfl : e = .returned (.int .i64 0) := he.trans (by rw [HO.out]; rfl)
    have hB7 := below_step hB6 hb7
    clear hB6 hA6 hb7 hc0 hc1 hz
    go_wp2
    go_ret
    exact ⟨rfl, hB7⟩
  | none =>
    have HT : Hid (typeRes l = .tuple #[.agg #[.int .i64 0, .string ⟨#[]⟩], .int .i64 50]) := by show typeRes l = _; unfold typeRes; rw [h1]
    clear h1
    cases h2 : protoL l with
    | none =>
      have H2 := hid h2
      clear h2
      go_enter Tryd.func4, Tryd.ntmps4
      go_wp2_with fail
      refine (works_true _ (HS.out)).mono ?_
      rintro e w1 ⟨rfl, hb1⟩
      go_wp2_with fail
      refine (type_any l w1 (HS.out.below h0 hb1) hl).mono ?_
      rintro e w2 ⟨rfl, hb2⟩
      rw [HT.out]
      replace hb1 := below_step hb1 hb2
      clear hb2
      go_wp2_with fail
      have hB3 := below_alloc hb1 (.cells #[.int .i64 0, .string ⟨#[]⟩] 23)
      generalize w2.alloc (.cells #[.int .i64 0, .string ⟨#[]⟩] 23) = W3 at *
      refine (proto_any l W3 (HS.out.below h0 hB3) hl).mono ?_
      intro e w4 hh
      obtain ⟨ha, hb4⟩ := hh
      unfold ProtoAns at ha
      rw [H2.out] at ha
      obtain rfl := ha
      have hB4 := below_step hB3 hb4
      clear hb1 hB3 hb4 W3
      go_wp2
      go_ret
      exact ⟨rfl, below_alloc hB4 _⟩
    | some p =>
      obtain ⟨hp, hx⟩ := protoL_text h2
      obtain ⟨hp1, hp2, hp3⟩ := protoErr_ok.1 hp
      have H2 := hid h2
      have HP := hid hp
      have HX := hid hx
      have HP2 := hid hp2
      have HP3 := hid hp3
      clear h2 hp hx hp2 hp3
      obtain ⟨r, args⟩ := p
      simp only at hp1 HP2 HP3
      go_enter Tryd.func4, Tryd.ntmps4
      go_wp2_with fail
      refine (works_true _ (HS.out)).mono ?_
      rintro e w1 ⟨rfl, hb1⟩
      go_wp2_with fail
      refine (type_any l w1 (HS.out.below h0 hb1) hl).mono ?_
      rintro e w2 ⟨rfl, hb2⟩
      rw [HT.out]
      replace hb1 := below_step hb1 hb2
      clear hb2
      go_wp2_with fail
      have hB3 := below_alloc hb1 (.cells #[.int .i64 0, .string ⟨#[]⟩] 23)
      generalize w2.alloc (.cells #[.int .i64 0, .string ⟨#[]⟩] 23) = W3 at *
      refine (proto_any l W3 (HS.out.below h0 hB3) hl).mono ?_
      intro e w4 hh
      obtain ⟨ha, hb4⟩ := hh
      obtain ⟨A, c, he, hc, hr⟩ := ha.ok H2.out
      obtain rfl : e = .returned (.tuple #[.agg #[.int .i64 r.k, .string r.n, .slice A args.length c], .int .i64 0]) := he
      have HR := hid hr
      have hB4 := below_step hB3 hb4
      clear hb1 hB3 hb4 W3 ha hr
      go_wp2_with fail
      have hB5 := below_alloc hB4 (.cells #[.int .i64 r.k, .string r.n, .slice A args.length c] 29)
      have hA5 := blk_new w4 (.cells #[.int .i64 r.k, .string r.n, .slice A args.length c] 29)
      have HR5 := hid (Kd.C_alloc HR.out (.cells #[.int .i64 r.k, .string r.n, .slice A args.length c] 29))
      generalize w4.alloc (.cells #[.int .i64 r.k, .string r.n, .slice A args.length c] 29) = W5 at *
      refine (writeProto_yes r A args c W5 (HS.out.below h0 hB5) HR5.out hp1 HP3.out HP2.out).mono ?_
      intro e w6 hh
      obtain ⟨he, hb6⟩ := hh
      obtain rfl : e = .returned (.tuple #[.string (tx l), .int .i64 0]) := by rw [← HX.out]; exact he
      have hB6 := below_step hB5 hb6
      have hA6 := hid (blk_below hA5 hb6)
      have HR6 := hid (Kd.C_below HR5.out hb6)
      generalize w4.heap.size = p4 at *
      clear hB4 HR hB5 hA5 HR5 hb6 W5 w4
      have hc0 := blk_cell hA6.out 0
      have hc1 := blk_cell hA6.out 1
      have hc2 := blk_cell hA6.out 2
      have hz := blk_lt hA6.out
      go_wp2_with fail
      refine (checkProto_any r A args c w6 (HS.out.below h0 hB6) HR6.out).mono ?_
      intro e w7 hh
      obtain ⟨he, hb7⟩ := hh
      obtain rfl : e = .returned (.int .i64 0) := he.trans (by rw [HP.out])
      have hB7 := below_step hB6 hb7
      clear hB6 hA6 hb7 hc0 hc1 hc2 hz
      go_wp2
      go_ret
      exact ⟨rfl, hB7⟩

theorem walk (s : ByteArray) (w : World) (hS : Sg w) (hs : s.size ≤ 140737488351232) :
    Calls Tryd.prog 4 #[.string s] w fun e w' => e = .returned (.bool true) ∧ Below w.heap.size w w' := by
  have := walkL s.data.toList w hS (by rw [dataLen]; omega)
  rw [tx_of] at this
  exact this

set_option maxRecDepth 100000 in
theorem lifted (os : Os) (started : os.Started) (H : Type) (enc : TypeId × Value → H) :
    ReturnsInHanded {} Tryd.checked os 4 .any (fun w args => (Rows.descrAgainSpec.pre enc Tryd.prog Tryd.f4 [] false w args ∧ laidMetH Tryd.prog [("warpbeam/descr.signs", Rows.laid_warpbeam_descr_signs)] w) ∧ sizedMet enc Tryd.prog Tryd.f4 (OpenSpec.ofChange Rows.descrAgainSpec) false w args)
      (Rows.descrAgainSpec.post enc Tryd.prog Tryd.f4 false true false false) := by
  refine returnsInHanded_of_change_and (C := Tryd.checked) (X := fun w _ => laidMetH Tryd.prog [("warpbeam/descr.signs", Rows.laid_warpbeam_descr_signs)] w) (fun _ _ _ hh h => h.of_heap hh) own started (by kernel_rfl) Tryd.func4
    (ChangeSpec.witness_shaped (enc := enc) (C := Tryd.checked) (os := os) (X := fun w _ => laidMetH Tryd.prog [("warpbeam/descr.signs", Rows.laid_warpbeam_descr_signs)] w) false (World.doorLaid Tryd.prog 400 os) #[.string ByteArray.empty] 8 rfl (World.shaped_of_RefB (by kernel_rfl) (by kernel_rfl)) (by kernel_rfl) (by kernel_rfl) (by kernel_rfl) (door_met os _)) ?_
  intro W base args ds gs before hval0 hW hcnd hsz0 hL _
  have hval : ∀ (j : Nat) t v, Tryd.f4.params[j]? = some t → args[j]? = some v → Value.okWide Tryd.prog W .any base t v := hval0
  have hsz : (DataW.weightsEach Tryd.prog (Tryd.f4.params.toList ++ Rows.descrAgainSpec.plain.varTypes Tryd.prog) (ds ++ gs)).all (· ≤ reachBytes) = true := hsz0
  have hW' := hW
  obtain ⟨p, q, hA0, hV, rfl, hfz, hnd⟩ := hW
  have hA : DataW.TrodAll enc Tryd.prog W 0 (fun _ => true) true Tryd.f4.params.toList args.toList ds p := hA0
  rw [Tryd.params4] at hA hval hsz
  obtain ⟨v0, vs0, d0, ds0, p0, q0, hargs, rfl, rfl, h0, r0⟩ := trodAll_cons hA
  obtain ⟨rfl, rfl, rfl⟩ := trodAll_nil r0
  obtain rfl : args = #[v0] := by cases args; simp_all
  obtain ⟨rfl, rfl⟩ := trodVars_none hV
  obtain ⟨a0, rfl, rfl, rfl, y0⟩ := open_string Tryd.underlying9 (hval 0 9 v0 rfl rfl) h0
  have w0 : a0.size ≤ 140737488351232 := by
    have z := sized_string hsz (j := 0) (t := 9) rfl rfl
    rw [Array.length_toList] at z
    exact z
  have hS := sg_of_laid hL
  clear hA0 hval0 hsz0 hsz
  refine (walk a0 W hS w0).mono fun e W' ⟨he, bel⟩ => ?_
  subst he
  exact ⟨_, rfl, _, _, _, [], _, [], hW', trodAll_mk1 (shut_bool Tryd.underlying4 _), (trodAll_cons_mk (shut_string Tryd.underlying9 y0) trodAll_mk0), rfl, bel.frame _, fun h => by cases h⟩

theorem over : Rows.DescrAgainSaid :=
  OpenClaim.holds_of_wide 4 Tryd.f4 rfl rfl rfl rfl rfl rfl rfl ⟨rfl, rfl, rfl, rfl, rfl⟩ rfl rfl rfl rfl rfl (by kernel_rfl) Tryd.func4 (by kernel_rfl)
    (of_decide_eq_true (by kernel_rfl)) (by unfold Func.isWrapper; first | (rw [if_pos (by decide +kernel)]; kernel_rfl) | (rw [if_neg (by decide +kernel)]; exact ⟨rfl, rfl⟩))
    (fun os started H enc _ => lifted os started H enc)
end Go.Proofs.YtcaepnbamnicmaaDoor.descrAgain

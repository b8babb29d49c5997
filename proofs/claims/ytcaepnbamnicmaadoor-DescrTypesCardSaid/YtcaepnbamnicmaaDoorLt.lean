/- The law DescrTypes: for every type the statement's function returns true, under the table of signs as the program lays it. -/
import Derived.Test.YtcaepnbamnicmaaDoorRl
import Derived.Test.YtcaepnbamnicmaaDoorOq
import Derived.Carry
import Derived.ShutString
import Derived.ChangeOld
import Derived.SizedLaws
import Derived.Test.YtcaepnbamnicmaaDoorDy
import Derived.Deep.RegionHeld3
namespace Go.Proofs.YtcaepnbamnicmaaDoor.descrTypes
open Go.ChangeShapes Go.WideShapes Go.ChangeAt Go.RowKit
open Go.ChangeMaps (open_string shut_string)
open Go.Proofs.YtcaepnbamnicmaaDoor Go.Proofs.YtcaepnbamnicmaaDoorW.PrintWords

def wtL (t : Ty) : ByteArray × Int := if tyOk t then (tyText t, 0) else (⟨#[]⟩, 2)
theorem writeType_any (t : Ty) (w : World) (hS : Sg w) :
    Calls Tryd.prog 20 #[.agg #[.int .i64 t.k, .string t.n]] w fun e w' => e = .returned (.tuple #[.string (wtL t).1, .int .i64 (wtL t).2]) ∧ Below w.heap.size w w' := by
  unfold wtL
  cases h : tyOk t with
  | true => exact writeType_yes t.k t.n w hS h
  | false => exact writeType_no t.k t.n w hS h
theorem refWriteType_any (t : Ty) (w : World) :
    Calls Tryd.prog 31 #[.agg #[.int .i64 t.k, .string t.n]] w fun e w' => e = .returned (.tuple #[.string (wtL t).1, .int .i64 (wtL t).2]) ∧ Below w.heap.size w w' := by
  unfold wtL
  cases h : tyOk t with
  | true => exact refWriteType_yes t w h
  | false => exact refWriteType_no t w h
theorem heldStep {W w1 w2 : World} {a0 a1 a2 a3 a4 a5 a6 a7 a8 a9 : Addr} {v0 v1 v2 v3 v4 v5 v6 v7 v8 v9 : Value}
    (h : Below W.heap.size W w1 ∧ w1.cell? a0 = some v0 ∧ w1.cell? a1 = some v1 ∧ w1.cell? a2 = some v2 ∧ w1.cell? a3 = some v3 ∧ w1.cell? a4 = some v4 ∧ w1.cell? a5 = some v5 ∧ w1.cell? a6 = some v6 ∧ w1.cell? a7 = some v7 ∧ w1.cell? a8 = some v8 ∧ w1.cell? a9 = some v9)
    (b : Below w1.heap.size w1 w2) : Below W.heap.size W w2 ∧ w2.cell? a0 = some v0 ∧ w2.cell? a1 = some v1 ∧ w2.cell? a2 = some v2 ∧ w2.cell? a3 = some v3 ∧ w2.cell? a4 = some v4 ∧ w2.cell? a5 = some v5 ∧ w2.cell? a6 = some v6 ∧ w2.cell? a7 = some v7 ∧ w2.cell? a8 = some v8 ∧ w2.cell? a9 = some v9 := by
  obtain ⟨h, h0, h1, h2, h3, h4, h5, h6, h7, h8, h9⟩ := h
  exact ⟨below_step h b, cell_later' b h0, cell_later' b h1, cell_later' b h2, cell_later' b h3, cell_later' b h4, cell_later' b h5, cell_later' b h6, cell_later' b h7, cell_later' b h8, cell_later' b h9⟩

set_option maxHeartbeats 4000000 in
theorem walk (t : Ty) (w : World) (hS : Sg w) (_ : gTy t) :
    Calls Tryd.prog 9 #[.agg #[.int .i64 t.k, .string t.n]] w fun e w' => e = .returned (.bool true) ∧ Below w.heap.size w w' := by
  have HS := hid hS
  have h0 := hS.lt
  have HWT := hid (writeType_any t)
  have HRT := hid (refWriteType_any t)
  have HE := hid (elem_any t)
  have HRE := hid (refElem_any t)
  have HO := hid (over_any t)
  have HRO := hid (refOver_any t)
  generalize wtL t = x at *
  obtain ⟨x, xe⟩ := x
  generalize elemL t = y at *
  obtain ⟨y, yb⟩ := y
  generalize overL t = z at *
  obtain ⟨z, zb⟩ := z
  have hsx := strEq x
  have hsy := strEq y.n
  have hsz := strEq z.n
  clear hS
  go_enter Tryd.func9, Tryd.ntmps9
  go_wp2_with fail
  have hB1 := below_alloc (Below.refl w.heap.size w) (.cells #[.int .i64 t.k, .string t.n] 23)
  have hT := blk_new w (.cells #[.int .i64 t.k, .string t.n] 23)
  have hs1 := size_alloc w (.cells #[.int .i64 t.k, .string t.n] 23)
  generalize w.alloc (.cells #[.int .i64 t.k, .string t.n] 23) = W1 at *
  refine (HWT.out W1 (HS.out.below h0 hB1)).mono ?_
  intro e w2 hh
  obtain ⟨he, hb⟩ := hh
  obtain rfl : e = .returned (.tuple #[.string x, .int .i64 xe]) := he
  have hB2 := below_step hB1 hb
  replace hT := hid (blk_below hT hb)
  clear hb hB1
  have cT0 := blk_cell hT.out 0
  have cT1 := blk_cell hT.out 1
  have zT := blk_lt hT.out
  go_wp2_with fail
  clear cT0 cT1 zT
  refine (HRT.out w2).mono ?_
  intro e w3 hh
  obtain ⟨he, hb⟩ := hh
  obtain rfl : e = .returned (.tuple #[.string x, .int .i64 xe]) := he
  have hB3 := below_step hB2 hb
  replace hT := hid (blk_below hT.out hb)
  clear hb hB2
  have cT0 := blk_cell hT.out 0
  have cT1 := blk_cell hT.out 1
  have zT := blk_lt hT.out
  go_wp2_with fail
  clear cT0 cT1 zT
  refine (HE.out w3).mono ?_
  intro e w4 hh
  obtain ⟨he, hb⟩ := hh
  obtain rfl : e = .returned (.tuple #[.agg #[.int .i64 y.k, .string y.n], .bool yb]) := he
  have hB4 := below_step hB3 hb
  replace hT := hid (blk_below hT.out hb)
  clear hb hB3
  have cT0 := blk_cell hT.out 0
  have cT1 := blk_cell hT.out 1
  have zT := blk_lt hT.out
  go_wp2_with fail
  clear cT0 cT1 zT
  have hB5 := below_alloc hB4 (.cells #[.int .i64 y.k, .string y.n] 23)
  have hC := blk_new w4 (.cells #[.int .i64 y.k, .string y.n] 23)
  replace hT := blk_alloc hT.out (.cells #[.int .i64 y.k, .string y.n] 23)
  have hs5 := size_alloc w4 (.cells #[.int .i64 y.k, .string y.n] 23)
  generalize hq5 : w4.heap.size = pC at *
  generalize w4.alloc (.cells #[.int .i64 y.k, .string y.n] 23) = W5 at *
  refine (HRE.out W5).mono ?_
  intro e w6 hh
  obtain ⟨he, hb⟩ := hh
  obtain rfl : e = .returned (.tuple #[.agg #[.int .i64 y.k, .string y.n], .bool yb]) := he
  have hB6 := below_step hB5 hb
  replace hT := hid (blk_below hT hb)
  replace hC := hid (blk_below hC hb)
  clear hb hB5
  have cT0 := blk_cell hT.out 0
  have cT1 := blk_cell hT.out 1
  have zT := blk_lt hT.out
  have cC0 := blk_cell hC.out 0
  have cC1 := blk_cell hC.out 1
  have zC := blk_lt hC.out
  go_wp2_with fail
  clear cT0 cT1 zT cC0 cC1 zC
  have hB7 := below_alloc hB6 (.cells #[.int .i64 y.k, .string y.n] 23)
  have hD := blk_new w6 (.cells #[.int .i64 y.k, .string y.n] 23)
  replace hT := blk_alloc hT.out (.cells #[.int .i64 y.k, .string y.n] 23)
  replace hC := blk_alloc hC.out (.cells #[.int .i64 y.k, .string y.n] 23)
  have hs7 := size_alloc w6 (.cells #[.int .i64 y.k, .string y.n] 23)
  generalize hq7 : w6.heap.size = pD at *
  generalize w6.alloc (.cells #[.int .i64 y.k, .string y.n] 23) = W7 at *
  refine (HO.out W7).mono ?_
  intro e w8 hh
  obtain ⟨he, hb⟩ := hh
  obtain rfl : e = .returned (.tuple #[.agg #[.int .i64 z.k, .string z.n], .bool zb]) := he
  have hB8 := below_step hB7 hb
  replace hT := hid (blk_below hT hb)
  replace hC := hid (blk_below hC hb)
  replace hD := hid (blk_below hD hb)
  clear hb hB7
  have cT0 := blk_cell hT.out 0
  have cT1 := blk_cell hT.out 1
  have zT := blk_lt hT.out
  have cC0 := blk_cell hC.out 0
  have cC1 := blk_cell hC.out 1
  have zC := blk_lt hC.out
  have cD0 := blk_cell hD.out 0
  have cD1 := blk_cell hD.out 1
  have zD := blk_lt hD.out
  go_wp2_with fail
  clear cT0 cT1 zT cC0 cC1 zC cD0 cD1 zD
  have hB9 := below_alloc hB8 (.cells #[.int .i64 z.k, .string z.n] 23)
  have hG := blk_new w8 (.cells #[.int .i64 z.k, .string z.n] 23)
  replace hT := blk_alloc hT.out (.cells #[.int .i64 z.k, .string z.n] 23)
  replace hC := blk_alloc hC.out (.cells #[.int .i64 z.k, .string z.n] 23)
  replace hD := blk_alloc hD.out (.cells #[.int .i64 z.k, .string z.n] 23)
  have hs9 := size_alloc w8 (.cells #[.int .i64 z.k, .string z.n] 23)
  generalize hq9 : w8.heap.size = pG at *
  generalize w8.alloc (.cells #[.int .i64 z.k, .string z.n] 23) = W9 at *
  refine (HRO.out W9).mono ?_
  intro e w10 hh
  obtain ⟨he, hb⟩ := hh
  obtain rfl : e = .returned (.tuple #[.agg #[.int .i64 z.k, .string z.n], .bool zb]) := he
  have hB10 := below_step hB9 hb
  replace hT := hid (blk_below hT hb)
  replace hC := hid (blk_below hC hb)
  replace hD := hid (blk_below hD hb)
  replace hG := hid (blk_below hG hb)
  clear hb hB9
  have cT0 := blk_cell hT.out 0
  have cT1 := blk_cell hT.out 1
  have zT := blk_lt hT.out
  have cC0 := blk_cell hC.out 0
  have cC1 := blk_cell hC.out 1
  have zC := blk_lt hC.out
  have cD0 := blk_cell hD.out 0
  have cD1 := blk_cell hD.out 1
  have zD := blk_lt hD.out
  have cG0 := blk_cell hG.out 0
  have cG1 := blk_cell hG.out 1
  have zG := blk_lt hG.out
  go_wp2_with fail
  clear cT0 cT1 zT cC0 cC1 zC cD0 cD1 zD cG0 cG1 zG
  have hB11 := below_alloc hB10 (.cells #[.int .i64 z.k, .string z.n] 23)
  have hH := blk_new w10 (.cells #[.int .i64 z.k, .string z.n] 23)
  replace hT := blk_alloc hT.out (.cells #[.int .i64 z.k, .string z.n] 23)
  replace hC := blk_alloc hC.out (.cells #[.int .i64 z.k, .string z.n] 23)
  replace hD := blk_alloc hD.out (.cells #[.int .i64 z.k, .string z.n] 23)
  replace hG := blk_alloc hG.out (.cells #[.int .i64 z.k, .string z.n] 23)
  have hs11 := size_alloc w10 (.cells #[.int .i64 z.k, .string z.n] 23)
  generalize hq11 : w10.heap.size = pH at *
  generalize w10.alloc (.cells #[.int .i64 z.k, .string z.n] 23) = W11 at *
  have s0 := blk_cell hT 0
  have s1 := blk_cell hT 1
  have s2 := blk_cell hC 0
  have s3 := blk_cell hC 1
  have s4 := blk_cell hD 0
  have s5 := blk_cell hD 1
  have s6 := blk_cell hG 0
  have s7 := blk_cell hG 1
  have s8 := blk_cell hH 0
  have s9 := blk_cell hH 1
  go_region_held3 (fun w' => Below W11.heap.size W11 w' ∧ w'.cell? ⟨w.heap.size, 0, none⟩ = some (.int .i64 t.k) ∧ w'.cell? ⟨w.heap.size, 1, none⟩ = some (.string t.n) ∧ w'.cell? ⟨pC, 0, none⟩ = some (.int .i64 y.k) ∧ w'.cell? ⟨pC, 1, none⟩ = some (.string y.n) ∧ w'.cell? ⟨pD, 0, none⟩ = some (.int .i64 y.k) ∧ w'.cell? ⟨pD, 1, none⟩ = some (.string y.n) ∧ w'.cell? ⟨pG, 0, none⟩ = some (.int .i64 z.k) ∧ w'.cell? ⟨pG, 1, none⟩ = some (.string z.n) ∧ w'.cell? ⟨pH, 0, none⟩ = some (.int .i64 z.k) ∧ w'.cell? ⟨pH, 1, none⟩ = some (.string z.n)) (first | exact ⟨below_drewN' (Below.refl _ _) 1, s0, s1, s2, s3, s4, s5, s6, s7, s8, s9⟩ | exact heldStep (by assumption) (by assumption)) (first | (go_at_call 21; refine (checkType_any t _ (HS.out.below h0 (below_step hB11 (And.left (by assumption))))).mono ?_; rintro e w' ⟨rfl, hb⟩) | (go_at_call 36; refine (refCheckType_any t _).mono ?_; rintro e w' ⟨rfl, hb⟩) | (go_at_call 37; refine (words_any t.k t.n _ (HS.out.below h0 (below_step hB11 (And.left (by assumption))))).mono ?_; rintro e w' ⟨rfl, hb⟩) | (go_at_call 38; refine (refWords_any t.k t.n _).mono ?_; rintro e w' ⟨rfl, hb⟩) | (go_at_call 39; refine (val_any t.k t.n _ (HS.out.below h0 (below_step hB11 (And.left (by assumption))))).mono ?_; rintro e w' ⟨rfl, hb⟩) | (go_at_call 40; refine (refVal_any t.k t.n _).mono ?_; rintro e w' ⟨rfl, hb⟩) | (go_at_call 19; refine (works_true _ (HS.out.below h0 (below_step hB11 (And.left (by assumption))))).mono ?_; rintro e w' ⟨rfl, hb⟩))
  go_wp2
  go_ret
  exact ⟨rfl, below_step hB11 (And.left (by assumption))⟩
set_option maxRecDepth 100000 in
theorem lifted (os : Os) (started : os.Started) (H : Type) (enc : TypeId × Value → H) :
    ReturnsInHanded {} Tryd.checked os 9 .any (fun w args => (Rows.descrTypesSpec.pre enc Tryd.prog Tryd.f9 [] false w args ∧ laidMetH Tryd.prog [("warpbeam/descr.signs", Rows.laid_warpbeam_descr_signs)] w) ∧ sizedMet enc Tryd.prog Tryd.f9 (OpenSpec.ofChange Rows.descrTypesSpec) false w args)
      (Rows.descrTypesSpec.post enc Tryd.prog Tryd.f9 false true false false) := by
  refine returnsInHanded_of_change_and (C := Tryd.checked) (X := fun w _ => laidMetH Tryd.prog [("warpbeam/descr.signs", Rows.laid_warpbeam_descr_signs)] w) (fun _ _ _ hh h => h.of_heap hh) own started (by kernel_rfl) Tryd.func9
    (ChangeSpec.witness_shaped (enc := enc) (C := Tryd.checked) (os := os) (X := fun w _ => laidMetH Tryd.prog [("warpbeam/descr.signs", Rows.laid_warpbeam_descr_signs)] w) false (World.doorLaid Tryd.prog 400 os) #[.agg #[.int .i64 0, .string ByteArray.empty]] 8 rfl (World.shaped_of_RefB (by kernel_rfl) (by kernel_rfl)) (by kernel_rfl) (by kernel_rfl) (by kernel_rfl) (door_met os _)) ?_
  intro W base args ds gs before hval0 hW hcnd hsz0 hL _
  have hval : ∀ (j : Nat) t v, Tryd.f9.params[j]? = some t → args[j]? = some v → Value.okWide Tryd.prog W .any base t v := hval0
  have hsz : (DataW.weightsEach Tryd.prog (Tryd.f9.params.toList ++ Rows.descrTypesSpec.plain.varTypes Tryd.prog) (ds ++ gs)).all (· ≤ reachBytes) = true := hsz0
  have hW' := hW
  obtain ⟨p, q, hA0, hV, rfl, hfz, hnd⟩ := hW
  have hA : DataW.TrodAll enc Tryd.prog W 0 (fun _ => true) true Tryd.f9.params.toList args.toList ds p := hA0
  rw [Tryd.params9] at hA hval hsz
  obtain ⟨v0, vs0, d0, ds0, p0, q0, hargs, rfl, rfl, h0, r0⟩ := trodAll_cons hA
  obtain ⟨rfl, rfl, rfl⟩ := trodAll_nil r0
  obtain rfl : args = #[v0] := by cases args; simp_all
  obtain ⟨rfl, rfl⟩ := trodVars_none hV
  have y0 := h0
  obtain ⟨t0, rfl, g0⟩ := openTy (hval 0 23 v0 rfl rfl) h0 (Op.weights_of hsz (j := 0) rfl rfl)
  have hS := sg_of_laid hL
  clear hA0 hval0 hsz0 hsz
  refine (walk t0 W hS g0).mono fun e W' ⟨he, bel⟩ => ?_
  subst he
  exact ⟨_, rfl, _, _, _, [], _, [], hW', trodAll_mk1 (shut_bool Tryd.underlying4 _), (trodAll_cons_mk (Below.trod laidOut (by kernel_rfl) (of_decide_eq_true (by kernel_rfl)) y0 bel (Op.trod_places y0)) trodAll_mk0), rfl, bel.frame _, fun h => by cases h⟩

theorem over : Rows.DescrTypesSaid :=
  OpenClaim.holds_of_wide 9 Tryd.f9 rfl rfl rfl rfl rfl rfl rfl ⟨rfl, rfl, rfl, rfl, rfl⟩ rfl rfl rfl rfl rfl (by kernel_rfl) Tryd.func9 (by kernel_rfl)
    (of_decide_eq_true (by kernel_rfl)) (by unfold Func.isWrapper; first | (rw [if_pos (by decide +kernel)]; kernel_rfl) | (rw [if_neg (by decide +kernel)]; exact ⟨rfl, rfl⟩))
    (fun os started H enc _ => lifted os started H enc)

end Go.Proofs.YtcaepnbamnicmaaDoor.descrTypes

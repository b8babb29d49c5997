/- The law DescrReads: for every text the statement's function returns true, under the table of signs as the program lays it. -/
import Derived.Test.YtcaepnbamnicmaaDoorRl
import Derived.Test.YtcaepnbamnicmaaDoorOq
import Derived.Carry
import Derived.ShutString
import Derived.ChangeOld
import Derived.SizedLaws
import Derived.Test.YtcaepnbamnicmaaDoorDw
import Derived.Test.YtcaepnbamnicmaaDoorDx
namespace Go.Proofs.YtcaepnbamnicmaaDoor.descrReads
open Go.ChangeShapes Go.WideShapes Go.ChangeAt Go.RowKit
open Go.ChangeMaps (open_string shut_string)
open Go.Proofs.YtcaepnbamnicmaaDoor Go.Proofs.YtcaepnbamnicmaaDoorW.PrintWords

def tRes (l : List UInt8) : Ty × Int := match typeL l with
  | some t => (t, 0)
  | none => (zTy, 50)
theorem typeRes_eq (l : List UInt8) : typeRes l = .tuple #[.agg #[.int .i64 (tRes l).1.k, .string (tRes l).1.n], .int .i64 (tRes l).2] := by
  unfold typeRes tRes
  cases typeL l <;> rfl
def pRes (l : List UInt8) : Pr × Int := match protoL l with
  | some p => (p, 0)
  | none => (⟨zTy, []⟩, 50)
theorem ans_of {l : List UInt8} {w : World} {e : Ending} {w' : World} (h : ProtoAns l w e w') : ∃ A c, e = .returned (.tuple #[.agg #[.int .i64 (pRes l).1.ret.k, .string (pRes l).1.ret.n, .slice A (pRes l).1.args.length c], .int .i64 (pRes l).2]) ∧ Kd.C kTy w' A (pRes l).1.args.length (pRes l).1.args := by
  unfold pRes
  cases hp : protoL l with
  | none =>
    unfold ProtoAns at h
    rw [hp] at h
    exact ⟨none, 0, h, Kd.C_nil _ _⟩
  | some p =>
    obtain ⟨A, c, h1, _, h2⟩ := h.ok hp
    exact ⟨A, c, h1, h2⟩

set_option maxHeartbeats 2000000 in
theorem walkL (l : List UInt8) (w : World) (hS : Sg w) (hl : l.length ≤ 9223372036854775000) :
    Calls Tryd.prog 3 #[.string (tx l)] w fun e w' => e = .returned (.bool true) ∧ Below w.heap.size w w' := by
  have HS := hid hS
  have h0 := hS.lt
  have HT := hid (typeRes_eq l)
  generalize tRes l = t at *
  obtain ⟨t, er⟩ := t
  have hs := strEq t.n
  have HPA : Hid (∀ {w : World} {e : Ending} {w' : World}, ProtoAns l w e w' → ∃ A c, e = .returned (.tuple #[.agg #[.int .i64 (pRes l).1.ret.k, .string (pRes l).1.ret.n, .slice A (pRes l).1.args.length c], .int .i64 (pRes l).2]) ∧ Kd.C kTy w' A (pRes l).1.args.length (pRes l).1.args) := fun h => ans_of h
  generalize pRes l = p at *
  obtain ⟨⟨r, xs⟩, fr⟩ := p
  have hq : (tyEq r r && tysEq xs xs) = true := by rw [tyEq_self, (tysEq_iff _ _).2 rfl]; rfl
  have HQ := hid hq
  have hnm : ((isName (tx l)) == (isName (tx l))) = true := by simp
  clear hS hq
  go_enter Tryd.func3, Tryd.ntmps3
  go_wp2_with fail
  refine (type_any l w HS.out (by omega)).mono ?_
  intro e w1 hh
  obtain ⟨he, hb⟩ := hh
  obtain rfl : e = .returned (.tuple #[.agg #[.int .i64 t.k, .string t.n], .int .i64 er]) := he.trans (by rw [HT.out])
  clear he
  have hB1 : Below w.heap.size w w1 := hb
  clear hb
  go_wp2_with fail
  have hB2 := below_alloc hB1 (.cells #[.int .i64 t.k, .string t.n] 23)
  have hA := blk_new w1 (.cells #[.int .i64 t.k, .string t.n] 23)
  have hs2 := size_alloc w1 (.cells #[.int .i64 t.k, .string t.n] 23)
  generalize hq2 : w1.heap.size = pA at *
  generalize w1.alloc (.cells #[.int .i64 t.k, .string t.n] 23) = W2 at *
  refine (refType_any l W2 hl).mono ?_
  intro e w3 hh
  obtain ⟨he, hb⟩ := hh
  obtain rfl : e = .returned (.tuple #[.agg #[.int .i64 t.k, .string t.n], .int .i64 er]) := he.trans (by rw [HT.out])
  clear he
  have hB3 := below_step hB2 hb
  replace hA := hid (blk_below hA hb)
  clear hb hB2
  have cA0 := blk_cell hA.out 0
  have cA1 := blk_cell hA.out 1
  have zA := blk_lt hA.out
  go_wp2_with fail
  clear cA0 cA1 zA
  have hB4 := below_alloc hB3 (.cells #[.int .i64 t.k, .string t.n] 23)
  have hB := blk_new w3 (.cells #[.int .i64 t.k, .string t.n] 23)
  replace hA := blk_alloc hA.out (.cells #[.int .i64 t.k, .string t.n] 23)
  have hs4 := size_alloc w3 (.cells #[.int .i64 t.k, .string t.n] 23)
  generalize hq4 : w3.heap.size = pB at *
  generalize w3.alloc (.cells #[.int .i64 t.k, .string t.n] 23) = W4 at *
  refine (proto_any l W4 (HS.out.below h0 hB4) (by omega)).mono ?_
  intro e w5 hh
  obtain ⟨he, hb⟩ := hh
  have hB5 := below_step hB4 hb
  replace hA := hid (blk_below hA hb)
  replace hB := hid (blk_below hB hb)
  clear hb hB4
  obtain ⟨P, c, he, hC⟩ := HPA.out he
  subst he
  have HC := hid hC
  clear hC
  have cA0 := blk_cell hA.out 0
  have cA1 := blk_cell hA.out 1
  have zA := blk_lt hA.out
  have cB0 := blk_cell hB.out 0
  have cB1 := blk_cell hB.out 1
  have zB := blk_lt hB.out
  go_wp2_with fail
  clear cA0 cA1 zA cB0 cB1 zB
  have hB6 := below_alloc hB5 (.cells #[.int .i64 r.k, .string r.n, .slice P xs.length c] 29)
  have hC := blk_new w5 (.cells #[.int .i64 r.k, .string r.n, .slice P xs.length c] 29)
  replace hA := blk_alloc hA.out (.cells #[.int .i64 r.k, .string r.n, .slice P xs.length c] 29)
  replace hB := blk_alloc hB.out (.cells #[.int .i64 r.k, .string r.n, .slice P xs.length c] 29)
  replace HC := Kd.C_alloc HC.out (.cells #[.int .i64 r.k, .string r.n, .slice P xs.length c] 29)
  have hs6 := size_alloc w5 (.cells #[.int .i64 r.k, .string r.n, .slice P xs.length c] 29)
  generalize hq6 : w5.heap.size = pC at *
  generalize w5.alloc (.cells #[.int .i64 r.k, .string r.n, .slice P xs.length c] 29) = W6 at *
  refine (refProto_any l W6 hl).mono ?_
  intro e w7 hh
  obtain ⟨he, hb⟩ := hh
  have hB7 := below_step hB6 hb
  replace hA := hid (blk_below hA hb)
  replace hB := hid (blk_below hB hb)
  replace HC := hid (Kd.C_below HC hb)
  replace hC := hid (blk_below hC hb)
  clear hb hB6
  obtain ⟨Q, d, he, hD⟩ := HPA.out he
  subst he
  have HD := hid hD
  clear hD
  have cA0 := blk_cell hA.out 0
  have cA1 := blk_cell hA.out 1
  have zA := blk_lt hA.out
  have cB0 := blk_cell hB.out 0
  have cB1 := blk_cell hB.out 1
  have zB := blk_lt hB.out
  have cC0 := blk_cell hC.out 0
  have cC1 := blk_cell hC.out 1
  have cC2 := blk_cell hC.out 2
  have zC := blk_lt hC.out
  go_wp2_with fail
  clear cA0 cA1 zA cB0 cB1 zB cC0 cC1 cC2 zC
  have hB8 := below_alloc hB7 (.cells #[.int .i64 r.k, .string r.n, .slice Q xs.length d] 29)
  have hD := blk_new w7 (.cells #[.int .i64 r.k, .string r.n, .slice Q xs.length d] 29)
  replace hA := blk_alloc hA.out (.cells #[.int .i64 r.k, .string r.n, .slice Q xs.length d] 29)
  replace hB := blk_alloc hB.out (.cells #[.int .i64 r.k, .string r.n, .slice Q xs.length d] 29)
  replace HC := Kd.C_alloc HC.out (.cells #[.int .i64 r.k, .string r.n, .slice Q xs.length d] 29)
  replace hC := blk_alloc hC.out (.cells #[.int .i64 r.k, .string r.n, .slice Q xs.length d] 29)
  replace HD := Kd.C_alloc HD.out (.cells #[.int .i64 r.k, .string r.n, .slice Q xs.length d] 29)
  have hs8 := size_alloc w7 (.cells #[.int .i64 r.k, .string r.n, .slice Q xs.length d] 29)
  generalize hq8 : w7.heap.size = pD at *
  generalize w7.alloc (.cells #[.int .i64 r.k, .string r.n, .slice Q xs.length d] 29) = W8 at *
  refine (refSame_any r r P Q xs xs c d W8 HC HD).mono ?_
  intro e w9 hh
  obtain ⟨he, hb⟩ := hh
  obtain rfl : e = .returned (.bool true) := he.trans (by rw [HQ.out])
  clear he
  have hB9 := below_step hB8 hb
  replace hA := hid (blk_below hA hb)
  replace hB := hid (blk_below hB hb)
  replace HC := hid (Kd.C_below HC hb)
  replace hC := hid (blk_below hC hb)
  replace HD := hid (Kd.C_below HD hb)
  replace hD := hid (blk_below hD hb)
  clear hb hB8
  have cA0 := blk_cell hA.out 0
  have cA1 := blk_cell hA.out 1
  have zA := blk_lt hA.out
  have cB0 := blk_cell hB.out 0
  have cB1 := blk_cell hB.out 1
  have zB := blk_lt hB.out
  have cC0 := blk_cell hC.out 0
  have cC1 := blk_cell hC.out 1
  have cC2 := blk_cell hC.out 2
  have zC := blk_lt hC.out
  have cD0 := blk_cell hD.out 0
  have cD1 := blk_cell hD.out 1
  have cD2 := blk_cell hD.out 2
  have zD := blk_lt hD.out
  clear HC
  clear HD
  go_wp2_with fail
  clear cA0 cA1 zA cB0 cB1 zB cC0 cC1 cC2 zC cD0 cD1 cD2 zD
  refine (isName_any (tx l) w9).mono ?_
  intro e w10 hh
  obtain ⟨he, hb⟩ := hh
  obtain rfl : e = .returned (.bool (isName (tx l))) := he
  have hB10 := below_step hB9 hb
  replace hA := hid (blk_below hA.out hb)
  replace hB := hid (blk_below hB.out hb)
  replace hC := hid (blk_below hC.out hb)
  replace hD := hid (blk_below hD.out hb)
  clear hb hB9
  have cA0 := blk_cell hA.out 0
  have cA1 := blk_cell hA.out 1
  have zA := blk_lt hA.out
  have cB0 := blk_cell hB.out 0
  have cB1 := blk_cell hB.out 1
  have zB := blk_lt hB.out
  have cC0 := blk_cell hC.out 0
  have cC1 := blk_cell hC.out 1
  have cC2 := blk_cell hC.out 2
  have zC := blk_lt hC.out
  have cD0 := blk_cell hD.out 0
  have cD1 := blk_cell hD.out 1
  have cD2 := blk_cell hD.out 2
  have zD := blk_lt hD.out
  go_wp2_with fail
  clear cA0 cA1 zA cB0 cB1 zB cC0 cC1 cC2 zC cD0 cD1 cD2 zD
  refine (refIsName_any (tx l) w10).mono ?_
  intro e w11 hh
  obtain ⟨he, hb⟩ := hh
  obtain rfl : e = .returned (.bool (isName (tx l))) := he
  have hB11 := below_step hB10 hb
  replace hA := hid (blk_below hA.out hb)
  replace hB := hid (blk_below hB.out hb)
  replace hC := hid (blk_below hC.out hb)
  replace hD := hid (blk_below hD.out hb)
  clear hb hB10
  have cA0 := blk_cell hA.out 0
  have cA1 := blk_cell hA.out 1
  have zA := blk_lt hA.out
  have cB0 := blk_cell hB.out 0
  have cB1 := blk_cell hB.out 1
  have zB := blk_lt hB.out
  have cC0 := blk_cell hC.out 0
  have cC1 := blk_cell hC.out 1
  have cC2 := blk_cell hC.out 2
  have zC := blk_lt hC.out
  have cD0 := blk_cell hD.out 0
  have cD1 := blk_cell hD.out 1
  have cD2 := blk_cell hD.out 2
  have zD := blk_lt hD.out
  go_wp2_with fail
  clear cA0 cA1 zA cB0 cB1 zB cC0 cC1 cC2 zC cD0 cD1 cD2 zD
  refine (works_true w11 (HS.out.below h0 hB11)).mono ?_
  intro e w12 hh
  obtain ⟨he, hb⟩ := hh
  obtain rfl : e = .returned (.bool true) := he
  have hB12 := below_step hB11 hb
  replace hA := hid (blk_below hA.out hb)
  replace hB := hid (blk_below hB.out hb)
  replace hC := hid (blk_below hC.out hb)
  replace hD := hid (blk_below hD.out hb)
  clear hb hB11
  have cA0 := blk_cell hA.out 0
  have cA1 := blk_cell hA.out 1
  have zA := blk_lt hA.out
  have cB0 := blk_cell hB.out 0
  have cB1 := blk_cell hB.out 1
  have zB := blk_lt hB.out
  have cC0 := blk_cell hC.out 0
  have cC1 := blk_cell hC.out 1
  have cC2 := blk_cell hC.out 2
  have zC := blk_lt hC.out
  have cD0 := blk_cell hD.out 0
  have cD1 := blk_cell hD.out 1
  have cD2 := blk_cell hD.out 2
  have zD := blk_lt hD.out
  go_wp2
  go_ret
  exact ⟨rfl, hB12⟩

theorem walk (s : ByteArray) (w : World) (hS : Sg w) (hs : s.size ≤ 140737488351232) :
    Calls Tryd.prog 3 #[.string s] w fun e w' => e = .returned (.bool true) ∧ Below w.heap.size w w' := by
  have := walkL s.data.toList w hS (by rw [dataLen]; omega)
  rw [tx_of] at this
  exact this
set_option maxRecDepth 100000 in
theorem lifted (os : Os) (started : os.Started) (H : Type) (enc : TypeId × Value → H) :
    ReturnsInHanded {} Tryd.checked os 3 .any (fun w args => (Rows.descrReadsSpec.pre enc Tryd.prog Tryd.f3 [] false w args ∧ laidMetH Tryd.prog [("warpbeam/descr.signs", Rows.laid_warpbeam_descr_signs)] w) ∧ sizedMet enc Tryd.prog Tryd.f3 (OpenSpec.ofChange Rows.descrReadsSpec) false w args)
      (Rows.descrReadsSpec.post enc Tryd.prog Tryd.f3 false true false false) := by
  refine returnsInHanded_of_change_and (C := Tryd.checked) (X := fun w _ => laidMetH Tryd.prog [("warpbeam/descr.signs", Rows.laid_warpbeam_descr_signs)] w) (fun _ _ _ hh h => h.of_heap hh) own started (by kernel_rfl) Tryd.func3
    (ChangeSpec.witness_shaped (enc := enc) (C := Tryd.checked) (os := os) (X := fun w _ => laidMetH Tryd.prog [("warpbeam/descr.signs", Rows.laid_warpbeam_descr_signs)] w) false (World.doorLaid Tryd.prog 400 os) #[.string ByteArray.empty] 8 rfl (World.shaped_of_RefB (by kernel_rfl) (by kernel_rfl)) (by kernel_rfl) (by kernel_rfl) (by kernel_rfl) (door_met os _)) ?_
  intro W base args ds gs before hval0 hW hcnd hsz0 hL _
  have hval : ∀ (j : Nat) t v, Tryd.f3.params[j]? = some t → args[j]? = some v → Value.okWide Tryd.prog W .any base t v := hval0
  have hsz : (DataW.weightsEach Tryd.prog (Tryd.f3.params.toList ++ Rows.descrReadsSpec.plain.varTypes Tryd.prog) (ds ++ gs)).all (· ≤ reachBytes) = true := hsz0
  have hW' := hW
  obtain ⟨p, q, hA0, hV, rfl, hfz, hnd⟩ := hW
  have hA : DataW.TrodAll enc Tryd.prog W 0 (fun _ => true) true Tryd.f3.params.toList args.toList ds p := hA0
  rw [Tryd.params3] at hA hval hsz
  obtain ⟨v0, vs0, d0, ds0, p0, q0, hargs, rfl, rfl, h0, r0⟩ := trodAll_cons hA
  obtain ⟨rfl, rfl, rfl⟩ := trodAll_nil r0
  obtain rfl : args = #[v0] := by cases args; simp_all
  obtain ⟨rfl, rfl⟩ := trodVars_none hV
  have y0 := h0
  obtain ⟨a0, rfl, rfl, rfl, z0⟩ := open_string Tryd.underlying9 (hval 0 9 v0 rfl rfl) h0
  have w0 : a0.size ≤ 140737488351232 := by
    have z := sized_string hsz (j := 0) (t := 9) rfl rfl
    rw [Array.length_toList] at z
    exact z
  have hS := sg_of_laid hL
  clear hA0 hval0 hsz0 hsz
  refine (walk a0 W hS w0).mono fun e W' ⟨he, bel⟩ => ?_
  subst he
  exact ⟨_, rfl, _, _, _, [], _, [], hW', trodAll_mk1 (shut_bool Tryd.underlying4 _), (trodAll_cons_mk (Below.trod laidOut (by kernel_rfl) (of_decide_eq_true (by kernel_rfl)) y0 bel (Op.trod_places y0)) trodAll_mk0), rfl, bel.frame _, fun h => by cases h⟩

theorem over : Rows.DescrReadsSaid :=
  OpenClaim.holds_of_wide 3 Tryd.f3 rfl rfl rfl rfl rfl rfl rfl ⟨rfl, rfl, rfl, rfl, rfl⟩ rfl rfl rfl rfl rfl (by kernel_rfl) Tryd.func3 (by kernel_rfl)
    (of_decide_eq_true (by kernel_rfl)) (by unfold Func.isWrapper; first | (rw [if_pos (by decide +kernel)]; kernel_rfl) | (rw [if_neg (by decide +kernel)]; exact ⟨rfl, rfl⟩))
    (fun os started H enc _ => lifted os started H enc)

end Go.Proofs.YtcaepnbamnicmaaDoor.descrReads

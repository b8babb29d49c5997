/- The law DescrBack: for every proto the statement's function returns true, under the table of signs as the program lays it. -/
import Derived.Test.YtcaepnbamnicmaaDoorRl
import Derived.Test.YtcaepnbamnicmaaDoorOq
import Derived.Carry
import Derived.ShutString
import Derived.ChangeOld
import Derived.SizedLaws
import Derived.Test.YtcaepnbamnicmaaDoorDm
import Derived.Test.YtcaepnbamnicmaaDoorOr
import Derived.Test.YtcaepnbamnicmaaDoorPt
namespace Go.Proofs.YtcaepnbamnicmaaDoor.descrBack
open Go.ChangeShapes Go.WideShapes Go.ChangeAt Go.RowKit
open Go.ChangeMaps (open_string shut_string)
open Go.Proofs.YtcaepnbamnicmaaDoor Go.Proofs.YtcaepnbamnicmaaDoorW.PrintWords

theorem is_text (t : Ty) (w : World) (hS : Sg w) (h : tyOk t = true) :
    Calls Tryd.prog 30 #[.string (tyText t), .agg #[.int .i64 t.k, .string t.n]] w fun e w' => e = .returned (.bool true) ∧ Below w.heap.size w w' := by
  have := is_true (tyText t).data.toList t w hS (by have := tyL_size h; unfold tyL at this; omega) (typeL_of h) h (tx_of _).symm
  rw [tx_of] at this
  exact this
theorem at_ok {l : List Ty} {k : Nat} (h : l.all tyOk = true) (hk : k < l.length) : tyOk (l.getD k zTy) = true := by
  rw [List.all_eq_true] at h
  simp only [List.getD, List.getElem?_eq_getElem hk, Option.getD_some]
  exact h _ (List.getElem_mem hk)

set_option maxHeartbeats 1000000 in
theorem walk_yes (r : Ty) (args : List Ty) (A : Option Addr) (c : Nat) (w : World) (hS : Sg w) (hr : Kd.C kTy w A args.length args) (h16 : args.length ≤ 16) (hret : (r.isZero || tyOk r) = true) (hall : args.all tyOk = true) :
    Calls Tryd.prog 8 #[.agg #[.int .i64 r.k, .string r.n, .slice A args.length c]] w fun e w' => e = .returned (.bool true) ∧ Below w.heap.size w w' := by
  have HS := hid hS
  have h0 := hS.lt
  have hp : protoErr ⟨r, args⟩ = 0 := protoErr_ok.2 ⟨h16, hret, hall⟩
  have HP := hid hp
  have HPL := hid (protoL_of hp)
  have HRET := hid hret
  have HALL := hid hall
  have HR := hid hr
  have hlen : (protoText ⟨r, args⟩).length ≤ 9223372036854775807 := by
    have h1 := flat_size hall
    have h2 : (retL r).length ≤ 67 := by
      unfold retL
      split
      · simp
      · rename_i hz
        rw [Bool.or_eq_true] at hret
        exact tyL_size (hret.resolve_left hz)
    unfold protoText
    simp only [List.length_cons, List.length_append]
    omega
  have hq : (tyEq r r && tysEq args args) = true := by rw [tyEq_self, (tysEq_iff _ _).2 rfl]; rfl
  have HQ := hid hq
  clear hS hp hret hall hr hq
  go_enter Tryd.func8, Tryd.ntmps8
  go_wp2_with fail
  have hB1 := below_alloc (Below.refl w.heap.size w) (.cells #[.int .i64 r.k, .string r.n, .slice A args.length c] 29)
  have hP := blk_new w (.cells #[.int .i64 r.k, .string r.n, .slice A args.length c] 29)
  replace HR := Kd.C_alloc HR.out (.cells #[.int .i64 r.k, .string r.n, .slice A args.length c] 29)
  have hs1 := size_alloc w (.cells #[.int .i64 r.k, .string r.n, .slice A args.length c] 29)
  generalize w.alloc (.cells #[.int .i64 r.k, .string r.n, .slice A args.length c] 29) = W1 at *
  refine (works_true W1 (HS.out.below h0 hB1)).mono ?_
  intro e w2 hh
  obtain ⟨he, hb⟩ := hh
  obtain rfl : e = .returned (.bool true) := he
  have hB2 := below_step hB1 hb
  replace HR := hid (Kd.C_below HR hb)
  replace hP := hid (blk_below hP hb)
  clear hb hB1
  have cP0 := blk_cell hP.out 0
  have cP1 := blk_cell hP.out 1
  have cP2 := blk_cell hP.out 2
  have zP := blk_lt hP.out
  go_wp2_with fail
  clear cP0 cP1 cP2 zP
  refine (writeProto_yes r A args c w2 (HS.out.below h0 hB2) HR.out h16 HALL.out HRET.out).mono ?_
  intro e w3 hh
  obtain ⟨he, hb⟩ := hh
  obtain rfl : e = .returned (.tuple #[.string (tx (protoText ⟨r, args⟩)), .int .i64 0]) := he
  have hB3 := below_step hB2 hb
  replace HR := hid (Kd.C_below HR.out hb)
  replace hP := hid (blk_below hP.out hb)
  clear hb hB2
  have cP0 := blk_cell hP.out 0
  have cP1 := blk_cell hP.out 1
  have cP2 := blk_cell hP.out 2
  have zP := blk_lt hP.out
  go_wp2_with fail
  clear cP0 cP1 cP2 zP
  refine (checkProto_any r A args c w3 (HS.out.below h0 hB3) HR.out).mono ?_
  intro e w4 hh
  obtain ⟨he, hb⟩ := hh
  obtain rfl : e = .returned (.int .i64 0) := he.trans (by rw [HP.out])
  clear he
  have hB4 := below_step hB3 hb
  replace HR := hid (Kd.C_below HR.out hb)
  replace hP := hid (blk_below hP.out hb)
  clear hb hB3
  have cP0 := blk_cell hP.out 0
  have cP1 := blk_cell hP.out 1
  have cP2 := blk_cell hP.out 2
  have zP := blk_lt hP.out
  go_wp2_with fail
  clear cP0 cP1 cP2 zP
  refine (proto_any (protoText ⟨r, args⟩) w4 (HS.out.below h0 hB4) hlen).mono ?_
  intro e w5 hh
  obtain ⟨he, hb⟩ := hh
  have hB5 := below_step hB4 hb
  replace HR := hid (Kd.C_below HR.out hb)
  replace hP := hid (blk_below hP.out hb)
  clear hb hB4
  obtain ⟨Q, d, he, hd, hC⟩ := ProtoAns.ok HPL.out he
  subst he
  have HC := hid hC
  clear hC
  have cP0 := blk_cell hP.out 0
  have cP1 := blk_cell hP.out 1
  have cP2 := blk_cell hP.out 2
  have zP := blk_lt hP.out
  go_wp2_with fail
  clear cP0 cP1 cP2 zP
  have hB6 := below_alloc hB5 (.cells #[.int .i64 r.k, .string r.n, .slice Q args.length d] 29)
  have hQ2 := blk_new w5 (.cells #[.int .i64 r.k, .string r.n, .slice Q args.length d] 29)
  replace HR := Kd.C_alloc HR.out (.cells #[.int .i64 r.k, .string r.n, .slice Q args.length d] 29)
  replace hP := blk_alloc hP.out (.cells #[.int .i64 r.k, .string r.n, .slice Q args.length d] 29)
  replace HC := Kd.C_alloc HC.out (.cells #[.int .i64 r.k, .string r.n, .slice Q args.length d] 29)
  have hs6 := size_alloc w5 (.cells #[.int .i64 r.k, .string r.n, .slice Q args.length d] 29)
  generalize hq6 : w5.heap.size = pQ2 at *
  generalize w5.alloc (.cells #[.int .i64 r.k, .string r.n, .slice Q args.length d] 29) = W6 at *
  refine (sameProto_any r r A Q args args c d W6 HR HC).mono ?_
  intro e w7 hh
  obtain ⟨he, hb⟩ := hh
  obtain rfl : e = .returned (.bool true) := he.trans (by rw [HQ.out])
  clear he
  have hB7 := below_step hB6 hb
  replace HR := hid (Kd.C_below HR hb)
  replace hP := hid (blk_below hP hb)
  replace HC := hid (Kd.C_below HC hb)
  replace hQ2 := hid (blk_below hQ2 hb)
  clear hb hB6
  have cP0 := blk_cell hP.out 0
  have cP1 := blk_cell hP.out 1
  have cP2 := blk_cell hP.out 2
  have zP := blk_lt hP.out
  have cQ20 := blk_cell hQ2.out 0
  have cQ21 := blk_cell hQ2.out 1
  have cQ22 := blk_cell hQ2.out 2
  have zQ2 := blk_lt hQ2.out
  clear HC
  go_wp2_with fail
  clear cP0 cP1 cP2 zP cQ20 cQ21 cQ22 zQ2
  go_loopw [7] (fun i wr => ∃ k : Nat, k ≤ args.length ∧ i = .int .i64 k ∧ Below w7.heap.size w7 wr) (fun i _ => args.length - (intOf i).toNat)
  case atStart => exact ⟨0, by omega, rfl, Below.refl _ _⟩
  obtain ⟨k, hk, rfl, hL⟩ := hrel
  have hB8 := below_step hB7 hL
  have HRr8 := hid (Kd.C_below HR.out hL)
  have hPr8 := hid (blk_below hP.out hL)
  have hQ2r8 := hid (blk_below hQ2.out hL)
  have cP0 := blk_cell hPr8.out 0
  have cP1 := blk_cell hPr8.out 1
  have cP2 := blk_cell hPr8.out 2
  have zP := blk_lt hPr8.out
  have cQ20 := blk_cell hQ2r8.out 0
  have cQ21 := blk_cell hQ2r8.out 1
  have cQ22 := blk_cell hQ2r8.out 2
  have zQ2 := blk_lt hQ2r8.out
  by_cases hlt : k < args.length
  rotate_left
  · go_wp2
    go_ret
    exact ⟨rfl, hB8⟩
  obtain ⟨ad, hAd, e0, e1⟩ := at_Ty HRr8.out k hlt
  subst hAd
  have HT := hid (at_ok HALL.out hlt)
  generalize args.getD k zTy = t at *
  have hk1 : ((k : Int) + 1).toNat = k + 1 := by omega
  go_wp2_with fail
  clear cP0 cP1 cP2 zP cQ20 cQ21 cQ22 zQ2
  have hB9 := below_alloc hB8 (.cells #[.int .i64 t.k, .string t.n] 23)
  replace hL := below_alloc hL (.cells #[.int .i64 t.k, .string t.n] 23)
  have hT := blk_new wr (.cells #[.int .i64 t.k, .string t.n] 23)
  replace HRr8 := Kd.C_alloc HRr8.out (.cells #[.int .i64 t.k, .string t.n] 23)
  replace hPr8 := blk_alloc hPr8.out (.cells #[.int .i64 t.k, .string t.n] 23)
  replace hQ2r8 := blk_alloc hQ2r8.out (.cells #[.int .i64 t.k, .string t.n] 23)
  have hs9 := size_alloc wr (.cells #[.int .i64 t.k, .string t.n] 23)
  generalize hq9 : wr.heap.size = pT at *
  generalize wr.alloc (.cells #[.int .i64 t.k, .string t.n] 23) = W9 at *
  refine (writeType_yes t.k t.n W9 (HS.out.below h0 hB9) HT.out).mono ?_
  intro e w10 hh
  obtain ⟨he, hb⟩ := hh
  obtain rfl : e = .returned (.tuple #[.string (tyText t), .int .i64 0]) := he
  have hB10 := below_step hB9 hb
  replace HRr8 := hid (Kd.C_below HRr8 hb)
  replace hPr8 := hid (blk_below hPr8 hb)
  replace hQ2r8 := hid (blk_below hQ2r8 hb)
  replace hT := hid (blk_below hT hb)
  replace hL := below_step hL hb
  clear hb hB9
  have cP0 := blk_cell hPr8.out 0
  have cP1 := blk_cell hPr8.out 1
  have cP2 := blk_cell hPr8.out 2
  have zP := blk_lt hPr8.out
  have cQ20 := blk_cell hQ2r8.out 0
  have cQ21 := blk_cell hQ2r8.out 1
  have cQ22 := blk_cell hQ2r8.out 2
  have zQ2 := blk_lt hQ2r8.out
  have cT0 := blk_cell hT.out 0
  have cT1 := blk_cell hT.out 1
  have zT := blk_lt hT.out
  go_wp2_with fail
  clear cP0 cP1 cP2 zP cQ20 cQ21 cQ22 zQ2 cT0 cT1 zT
  refine (checkType_any t w10 (HS.out.below h0 hB10)).mono ?_
  intro e w11 hh
  obtain ⟨he, hb⟩ := hh
  obtain rfl : e = .returned (.int .i64 0) := he.trans (by rw [HT.out]; rfl)
  clear he
  have hB11 := below_step hB10 hb
  replace HRr8 := hid (Kd.C_below HRr8.out hb)
  replace hPr8 := hid (blk_below hPr8.out hb)
  replace hQ2r8 := hid (blk_below hQ2r8.out hb)
  replace hT := hid (blk_below hT.out hb)
  replace hL := below_step hL hb
  clear hb hB10
  have cP0 := blk_cell hPr8.out 0
  have cP1 := blk_cell hPr8.out 1
  have cP2 := blk_cell hPr8.out 2
  have zP := blk_lt hPr8.out
  have cQ20 := blk_cell hQ2r8.out 0
  have cQ21 := blk_cell hQ2r8.out 1
  have cQ22 := blk_cell hQ2r8.out 2
  have zQ2 := blk_lt hQ2r8.out
  have cT0 := blk_cell hT.out 0
  have cT1 := blk_cell hT.out 1
  have zT := blk_lt hT.out
  go_wp2_with fail
  clear cP0 cP1 cP2 zP cQ20 cQ21 cQ22 zQ2 cT0 cT1 zT
  refine (is_text t w11 (HS.out.below h0 hB11) HT.out).mono ?_
  intro e w12 hh
  obtain ⟨he, hb⟩ := hh
  obtain rfl : e = .returned (.bool true) := he
  have hB12 := below_step hB11 hb
  replace HRr8 := hid (Kd.C_below HRr8.out hb)
  replace hPr8 := hid (blk_below hPr8.out hb)
  replace hQ2r8 := hid (blk_below hQ2r8.out hb)
  replace hT := hid (blk_below hT.out hb)
  replace hL := below_step hL hb
  clear hb hB11
  have cP0 := blk_cell hPr8.out 0
  have cP1 := blk_cell hPr8.out 1
  have cP2 := blk_cell hPr8.out 2
  have zP := blk_lt hPr8.out
  have cQ20 := blk_cell hQ2r8.out 0
  have cQ21 := blk_cell hQ2r8.out 1
  have cQ22 := blk_cell hQ2r8.out 2
  have zQ2 := blk_lt hQ2r8.out
  have cT0 := blk_cell hT.out 0
  have cT1 := blk_cell hT.out 1
  have zT := blk_lt hT.out
  go_wp2
  go_roundw
  case rel => exact ⟨k + 1, by omega, by go_num, hL⟩
  case measure => simp [intOf]; omega

set_option maxHeartbeats 1000000 in
theorem walk_no (r : Ty) (args : List Ty) (A : Option Addr) (c : Nat) (w : World) (hS : Sg w) (hr : Kd.C kTy w A args.length args) (hl : args.length ≤ 9223372036854775807) (hp : protoErr ⟨r, args⟩ ≠ 0) :
    Calls Tryd.prog 8 #[.agg #[.int .i64 r.k, .string r.n, .slice A args.length c]] w fun e w' => e = .returned (.bool true) ∧ Below w.heap.size w w' := by
  have HS := hid hS
  have h0 := hS.lt
  have HP0 := hid hp
  generalize hpe : protoErr ⟨r, args⟩ = pe at *
  have HP := hid hpe
  have HR := hid hr
  have hp1 : (pe == 0) = false := by simpa using hp
  have hp2 : (pe != 0) = true := by simpa using hp
  have hp3 : (pe == pe) = true := by simp
  clear hS hr hp hpe
  go_enter Tryd.func8, Tryd.ntmps8
  go_wp2_with fail
  have hB1 := below_alloc (Below.refl w.heap.size w) (.cells #[.int .i64 r.k, .string r.n, .slice A args.length c] 29)
  have hP := blk_new w (.cells #[.int .i64 r.k, .string r.n, .slice A args.length c] 29)
  replace HR := Kd.C_alloc HR.out (.cells #[.int .i64 r.k, .string r.n, .slice A args.length c] 29)
  have hs1 := size_alloc w (.cells #[.int .i64 r.k, .string r.n, .slice A args.length c] 29)
  generalize w.alloc (.cells #[.int .i64 r.k, .string r.n, .slice A args.length c] 29) = W1 at *
  refine (works_true W1 (HS.out.below h0 hB1)).mono ?_
  intro e w2 hh
  obtain ⟨he, hb⟩ := hh
  obtain rfl : e = .returned (.bool true) := he
  have hB2 := below_step hB1 hb
  replace HR := hid (Kd.C_below HR hb)
  replace hP := hid (blk_below hP hb)
  clear hb hB1
  have cP0 := blk_cell hP.out 0
  have cP1 := blk_cell hP.out 1
  have cP2 := blk_cell hP.out 2
  have zP := blk_lt hP.out
  go_wp2_with fail
  clear cP0 cP1 cP2 zP
  refine (writeProto_no r A args c w2 (HS.out.below h0 hB2) HR.out (by rw [HP.out]; exact HP0.out)).mono ?_
  intro e w3 hh
  obtain ⟨he, hb⟩ := hh
  obtain rfl : e = .returned (.tuple #[.string ⟨#[]⟩, .int .i64 pe]) := he.trans (by rw [HP.out])
  clear he
  have hB3 := below_step hB2 hb
  replace HR := hid (Kd.C_below HR.out hb)
  replace hP := hid (blk_below hP.out hb)
  clear hb hB2
  have cP0 := blk_cell hP.out 0
  have cP1 := blk_cell hP.out 1
  have cP2 := blk_cell hP.out 2
  have zP := blk_lt hP.out
  go_wp2_with fail
  clear cP0 cP1 cP2 zP
  refine (checkProto_any r A args c w3 (HS.out.below h0 hB3) HR.out).mono ?_
  intro e w4 hh
  obtain ⟨he, hb⟩ := hh
  obtain rfl : e = .returned (.int .i64 pe) := he.trans (by rw [HP.out])
  clear he
  have hB4 := below_step hB3 hb
  replace HR := hid (Kd.C_below HR.out hb)
  replace hP := hid (blk_below hP.out hb)
  clear hb hB3
  have cP0 := blk_cell hP.out 0
  have cP1 := blk_cell hP.out 1
  have cP2 := blk_cell hP.out 2
  have zP := blk_lt hP.out
  go_wp2_with fail
  clear cP0 cP1 cP2 zP
  go_loopw [7] (fun i wr => ∃ k : Nat, k ≤ args.length ∧ k ≤ 40 ∧ i = .int .i64 k ∧ Below w4.heap.size w4 wr) (fun i _ => 40 - (intOf i).toNat)
  case atStart => exact ⟨0, by omega, by omega, rfl, Below.refl _ _⟩
  obtain ⟨k, hk, hk4, rfl, hL⟩ := hrel
  have hB5 := below_step hB4 hL
  have HRr5 := hid (Kd.C_below HR.out hL)
  have hPr5 := hid (blk_below hP.out hL)
  have cP0 := blk_cell hPr5.out 0
  have cP1 := blk_cell hPr5.out 1
  have cP2 := blk_cell hPr5.out 2
  have zP := blk_lt hPr5.out
  by_cases hlt : k < args.length
  rotate_left
  · go_wp2
    go_ret
    exact ⟨rfl, hB5⟩
  by_cases h40 : k < 40
  rotate_left
  · go_wp2
    go_ret
    exact ⟨rfl, hB5⟩
  obtain ⟨ad, hAd, e0, e1⟩ := at_Ty HRr5.out k hlt
  subst hAd
  generalize args.getD k zTy = t at *
  have hk1 : ((k : Int) + 1).toNat = k + 1 := by omega
  cases ht : tyOk t
  case false =>
    have HT := hid ht
    clear ht
    go_wp2_with fail
    clear cP0 cP1 cP2 zP
    have hB6 := below_alloc hB5 (.cells #[.int .i64 t.k, .string t.n] 23)
    replace hL := below_alloc hL (.cells #[.int .i64 t.k, .string t.n] 23)
    have hT := blk_new wr (.cells #[.int .i64 t.k, .string t.n] 23)
    replace HRr5 := Kd.C_alloc HRr5.out (.cells #[.int .i64 t.k, .string t.n] 23)
    replace hPr5 := blk_alloc hPr5.out (.cells #[.int .i64 t.k, .string t.n] 23)
    have hs6 := size_alloc wr (.cells #[.int .i64 t.k, .string t.n] 23)
    generalize hq6 : wr.heap.size = pT at *
    generalize wr.alloc (.cells #[.int .i64 t.k, .string t.n] 23) = W6 at *
    refine (writeType_no t.k t.n W6 (HS.out.below h0 hB6) HT.out).mono ?_
    intro e w7 hh
    obtain ⟨he, hb⟩ := hh
    obtain rfl : e = .returned (.tuple #[.string ⟨#[]⟩, .int .i64 2]) := he
    have hB7 := below_step hB6 hb
    replace HRr5 := hid (Kd.C_below HRr5 hb)
    replace hPr5 := hid (blk_below hPr5 hb)
    replace hT := hid (blk_below hT hb)
    replace hL := below_step hL hb
    clear hb hB6
    have cP0 := blk_cell hPr5.out 0
    have cP1 := blk_cell hPr5.out 1
    have cP2 := blk_cell hPr5.out 2
    have zP := blk_lt hPr5.out
    have cT0 := blk_cell hT.out 0
    have cT1 := blk_cell hT.out 1
    have zT := blk_lt hT.out
    go_wp2_with fail
    clear cP0 cP1 cP2 zP cT0 cT1 zT
    refine (checkType_any t w7 (HS.out.below h0 hB7)).mono ?_
    intro e w8 hh
    obtain ⟨he, hb⟩ := hh
    obtain rfl : e = .returned (.int .i64 2) := he.trans (by rw [HT.out]; rfl)
    clear he
    have hB8 := below_step hB7 hb
    replace HRr5 := hid (Kd.C_below HRr5.out hb)
    replace hPr5 := hid (blk_below hPr5.out hb)
    replace hT := hid (blk_below hT.out hb)
    replace hL := below_step hL hb
    clear hb hB7
    have cP0 := blk_cell hPr5.out 0
    have cP1 := blk_cell hPr5.out 1
    have cP2 := blk_cell hPr5.out 2
    have zP := blk_lt hPr5.out
    have cT0 := blk_cell hT.out 0
    have cT1 := blk_cell hT.out 1
    have zT := blk_lt hT.out
    go_wp2
    go_roundw
    case rel => exact ⟨k + 1, by omega, by omega, by go_num, hL⟩
    case measure => simp [intOf]; omega
  case true =>
    have HT := hid ht
    clear ht
    go_wp2_with fail
    clear cP0 cP1 cP2 zP
    have hB9 := below_alloc hB5 (.cells #[.int .i64 t.k, .string t.n] 23)
    replace hL := below_alloc hL (.cells #[.int .i64 t.k, .string t.n] 23)
    have hT := blk_new wr (.cells #[.int .i64 t.k, .string t.n] 23)
    replace HRr5 := Kd.C_alloc HRr5.out (.cells #[.int .i64 t.k, .string t.n] 23)
    replace hPr5 := blk_alloc hPr5.out (.cells #[.int .i64 t.k, .string t.n] 23)
    have hs9 := size_alloc wr (.cells #[.int .i64 t.k, .string t.n] 23)
    generalize hq9 : wr.heap.size = pT at *
    generalize wr.alloc (.cells #[.int .i64 t.k, .string t.n] 23) = W9 at *
    refine (writeType_yes t.k t.n W9 (HS.out.below h0 hB9) HT.out).mono ?_
    intro e w10 hh
    obtain ⟨he, hb⟩ := hh
    obtain rfl : e = .returned (.tuple #[.string (tyText t), .int .i64 0]) := he
    have hB10 := below_step hB9 hb
    replace HRr5 := hid (Kd.C_below HRr5 hb)
    replace hPr5 := hid (blk_below hPr5 hb)
    replace hT := hid (blk_below hT hb)
    replace hL := below_step hL hb
    clear hb hB9
    have cP0 := blk_cell hPr5.out 0
    have cP1 := blk_cell hPr5.out 1
    have cP2 := blk_cell hPr5.out 2
    have zP := blk_lt hPr5.out
    have cT0 := blk_cell hT.out 0
    have cT1 := blk_cell hT.out 1
    have zT := blk_lt hT.out
    go_wp2_with fail
    clear cP0 cP1 cP2 zP cT0 cT1 zT
    refine (checkType_any t w10 (HS.out.below h0 hB10)).mono ?_
    intro e w11 hh
    obtain ⟨he, hb⟩ := hh
    obtain rfl : e = .returned (.int .i64 0) := he.trans (by rw [HT.out]; rfl)
    clear he
    have hB11 := below_step hB10 hb
    replace HRr5 := hid (Kd.C_below HRr5.out hb)
    replace hPr5 := hid (blk_below hPr5.out hb)
    replace hT := hid (blk_below hT.out hb)
    replace hL := below_step hL hb
    clear hb hB10
    have cP0 := blk_cell hPr5.out 0
    have cP1 := blk_cell hPr5.out 1
    have cP2 := blk_cell hPr5.out 2
    have zP := blk_lt hPr5.out
    have cT0 := blk_cell hT.out 0
    have cT1 := blk_cell hT.out 1
    have zT := blk_lt hT.out
    go_wp2_with fail
    clear cP0 cP1 cP2 zP cT0 cT1 zT
    refine (is_text t w11 (HS.out.below h0 hB11) HT.out).mono ?_
    intro e w12 hh
    obtain ⟨he, hb⟩ := hh
    obtain rfl : e = .returned (.bool true) := he
    have hB12 := below_step hB11 hb
    replace HRr5 := hid (Kd.C_below HRr5.out hb)
    replace hPr5 := hid (blk_below hPr5.out hb)
    replace hT := hid (blk_below hT.out hb)
    replace hL := below_step hL hb
    clear hb hB11
    have cP0 := blk_cell hPr5.out 0
    have cP1 := blk_cell hPr5.out 1
    have cP2 := blk_cell hPr5.out 2
    have zP := blk_lt hPr5.out
    have cT0 := blk_cell hT.out 0
    have cT1 := blk_cell hT.out 1
    have zT := blk_lt hT.out
    go_wp2
    go_roundw
    case rel => exact ⟨k + 1, by omega, by omega, by go_num, hL⟩
    case measure => simp [intOf]; omega

theorem walk (x : Pr) (A : Option Addr) (c : Nat) (w : World) (hS : Sg w) (_ : x.args.length ≤ c) (hr : Kd.C kTy w A x.args.length x.args) (_ : gPr x) :
    Calls Tryd.prog 8 #[.agg #[.int .i64 x.ret.k, .string x.ret.n, .slice A x.args.length c]] w fun e w' => e = .returned (.bool true) ∧ Below w.heap.size w w' := by
  by_cases hp : protoErr ⟨x.ret, x.args⟩ = 0
  · obtain ⟨h1, h2, h3⟩ := protoErr_ok.1 hp
    exact walk_yes x.ret x.args A c w hS hr h1 h2 h3
  · exact walk_no x.ret x.args A c w hS hr hr.2.1 hp

set_option maxRecDepth 100000 in
theorem lifted (os : Os) (started : os.Started) (H : Type) (enc : TypeId × Value → H) :
    ReturnsInHanded {} Tryd.checked os 8 .any (fun w args => (Rows.descrBackSpec.pre enc Tryd.prog Tryd.f8 [] false w args ∧ laidMetH Tryd.prog [("warpbeam/descr.signs", Rows.laid_warpbeam_descr_signs)] w) ∧ sizedMet enc Tryd.prog Tryd.f8 (OpenSpec.ofChange Rows.descrBackSpec) false w args)
      (Rows.descrBackSpec.post enc Tryd.prog Tryd.f8 false true false false) := by
  refine returnsInHanded_of_change_and (C := Tryd.checked) (X := fun w _ => laidMetH Tryd.prog [("warpbeam/descr.signs", Rows.laid_warpbeam_descr_signs)] w) (fun _ _ _ hh h => h.of_heap hh) own started (by kernel_rfl) Tryd.func8
    (ChangeSpec.witness_shaped (enc := enc) (C := Tryd.checked) (os := os) (X := fun w _ => laidMetH Tryd.prog [("warpbeam/descr.signs", Rows.laid_warpbeam_descr_signs)] w) false (World.doorLaid Tryd.prog 400 os) #[.agg #[.int .i64 0, .string ByteArray.empty, .slice none 0 0]] 8 rfl (World.shaped_of_RefB (by kernel_rfl) (by kernel_rfl)) (by kernel_rfl) (by kernel_rfl) (by kernel_rfl) (door_met os _)) ?_
  intro W base args ds gs before hval0 hW hcnd hsz0 hL _
  have hval : ∀ (j : Nat) t v, Tryd.f8.params[j]? = some t → args[j]? = some v → Value.okWide Tryd.prog W .any base t v := hval0
  have hsz : (DataW.weightsEach Tryd.prog (Tryd.f8.params.toList ++ Rows.descrBackSpec.plain.varTypes Tryd.prog) (ds ++ gs)).all (· ≤ reachBytes) = true := hsz0
  have hW' := hW
  obtain ⟨p, q, hA0, hV, rfl, hfz, hnd⟩ := hW
  have hA : DataW.TrodAll enc Tryd.prog W 0 (fun _ => true) true Tryd.f8.params.toList args.toList ds p := hA0
  rw [Tryd.params8] at hA hval hsz
  obtain ⟨v0, vs0, d0, ds0, p0, q0, hargs, rfl, rfl, h0, r0⟩ := trodAll_cons hA
  obtain ⟨rfl, rfl, rfl⟩ := trodAll_nil r0
  obtain rfl : args = #[v0] := by cases args; simp_all
  obtain ⟨rfl, rfl⟩ := trodVars_none hV
  have y0 := h0
  obtain ⟨x0, A0, c0, rfl, k0, C0, g0⟩ := openPr (hval 0 29 v0 rfl rfl) h0 (Op.weights_of hsz (j := 0) rfl rfl)
  have hS := sg_of_laid hL
  clear hA0 hval0 hsz0 hsz
  refine (walk x0 A0 c0 W hS k0 C0 g0).mono fun e W' ⟨he, bel⟩ => ?_
  subst he
  exact ⟨_, rfl, _, _, _, [], _, [], hW', trodAll_mk1 (shut_bool Tryd.underlying4 _), (trodAll_cons_mk (Below.trod laidOut (by kernel_rfl) (of_decide_eq_true (by kernel_rfl)) y0 bel (Op.trod_places y0)) trodAll_mk0), rfl, bel.frame _, fun h => by cases h⟩

theorem over : Rows.DescrBackSaid :=
  OpenClaim.holds_of_wide 8 Tryd.f8 rfl rfl rfl rfl rfl rfl rfl ⟨rfl, rfl, rfl, rfl, rfl⟩ rfl rfl rfl rfl rfl (by kernel_rfl) Tryd.func8 (by kernel_rfl)
    (of_decide_eq_true (by kernel_rfl)) (by unfold Func.isWrapper; first | (rw [if_pos (by decide +kernel)]; kernel_rfl) | (rw [if_neg (by decide +kernel)]; exact ⟨rfl, rfl⟩))
    (fun os started H enc _ => lifted os started H enc)

end Go.Proofs.YtcaepnbamnicmaaDoor.descrBack

/- The law DescrOver: for every type the statement's function returns true, under the table of signs as the program lays it. -/
import Derived.Test.YtcaepnbamnicmaaDoorRl
import Derived.Test.YtcaepnbamnicmaaDoorOq
import Derived.Carry
import Derived.ShutString
import Derived.ChangeOld
import Derived.SizedLaws
import Derived.Test.YtcaepnbamnicmaaDoorDm
namespace Go.Proofs.YtcaepnbamnicmaaDoor.descrOver
open Go.ChangeShapes Go.WideShapes Go.ChangeAt Go.RowKit
open Go.ChangeMaps (open_string shut_string)
open Go.Proofs.YtcaepnbamnicmaaDoor Go.Proofs.YtcaepnbamnicmaaDoorW.PrintWords

theorem up_ok {t : Ty} (h : tyOk t = true) (hk : t.k ≤ 3) : tyOk ⟨t.k + 3, t.n⟩ = true := by
  obtain ⟨k, n⟩ := t
  have hr := tyOk_range h
  simp only at hr hk
  have : k = 1 ∨ k = 2 ∨ k = 3 := by omega
  rcases this with rfl | rfl | rfl <;> exact h
theorem down_ok {t : Ty} (h : tyOk t = true) (hk : 4 ≤ t.k) : tyOk ⟨t.k - 3, t.n⟩ = true := by
  obtain ⟨k, n⟩ := t
  have hr := tyOk_range h
  simp only at hr hk
  have : k = 4 ∨ k = 5 ∨ k = 6 := by omega
  rcases this with rfl | rfl | rfl <;> exact h

set_option maxHeartbeats 1000000 in
theorem walk (t : Ty) (w : World) (hS : Sg w) (_ : gTy t) :
    Calls Tryd.prog 10 #[.agg #[.int .i64 t.k, .string t.n]] w fun e w' => e = .returned (.bool true) ∧ Below w.heap.size w w' := by
  have HS := hid hS
  have h0 := hS.lt
  have hs := strEq t.n
  clear hS
  cases ho : tyOk t with
  | false =>
    have HO := hid ho
    clear ho
    go_enter Tryd.func10, Tryd.ntmps10
    go_wp2_with fail
    have hB1 := below_alloc (Below.refl w.heap.size w) (.cells #[.int .i64 t.k, .string t.n] 23)
    have hT := blk_new w (.cells #[.int .i64 t.k, .string t.n] 23)
    have hs1 := size_alloc w (.cells #[.int .i64 t.k, .string t.n] 23)
    generalize w.alloc (.cells #[.int .i64 t.k, .string t.n] 23) = W1 at *
    refine (works_true W1 (HS.out.below h0 hB1)).mono ?_
    intro e w2 hh
    obtain ⟨he, hb⟩ := hh
    obtain rfl : e = .returned (.bool true) := he
    have hB2 := below_step hB1 hb
    replace hT := hid (blk_below hT hb)
    clear hb hB1
    have cT0 := blk_cell hT.out 0
    have cT1 := blk_cell hT.out 1
    have zT := blk_lt hT.out
    go_wp2_with fail
    clear cT0 cT1 zT
    refine (checkType_any t w2 (HS.out.below h0 hB2)).mono ?_
    intro e w3 hh
    obtain ⟨he, hb⟩ := hh
    obtain rfl : e = .returned (.int .i64 2) := he.trans (by rw [HO.out]; rfl)
    have hB3 := below_step hB2 hb
    replace hT := hid (blk_below hT.out hb)
    clear hb hB2
    have cT0 := blk_cell hT.out 0
    have cT1 := blk_cell hT.out 1
    have zT := blk_lt hT.out
    go_wp2
    go_ret
    exact ⟨rfl, hB3⟩
  | true =>
    have hr := tyOk_range ho
    have HO := hid ho
    by_cases hk : t.k ≤ 3
    · have HU := hid (up_ok ho hk)
      have e1 : ((t.k + 3) - 3 == t.k) = true := by rw [beq_iff_eq]; omega
      have e2 : (t.k + 3) - 3 = t.k := by omega
      have HW : Hid (wordsOf (t.k + 3) = 1) := by
        show wordsOf (t.k + 3) = 1
        unfold wordsOf
        rw [if_neg (by omega), if_pos (by omega)]
      have HV : Hid (valOf (t.k + 3) = 3) := by
        show valOf (t.k + 3) = 3
        unfold valOf
        rw [if_neg (by omega), if_neg (by omega), if_pos (by omega)]
      clear ho
      go_enter Tryd.func10, Tryd.ntmps10
      go_wp2_with fail
      have hB1 := below_alloc (Below.refl w.heap.size w) (.cells #[.int .i64 t.k, .string t.n] 23)
      have hT := blk_new w (.cells #[.int .i64 t.k, .string t.n] 23)
      have hs1 := size_alloc w (.cells #[.int .i64 t.k, .string t.n] 23)
      generalize w.alloc (.cells #[.int .i64 t.k, .string t.n] 23) = W1 at *
      refine (works_true W1 (HS.out.below h0 hB1)).mono ?_
      intro e w2 hh
      obtain ⟨he, hb⟩ := hh
      obtain rfl : e = .returned (.bool true) := he
      have hB2 := below_step hB1 hb
      replace hT := hid (blk_below hT hb)
      clear hb hB1
      have cT0 := blk_cell hT.out 0
      have cT1 := blk_cell hT.out 1
      have zT := blk_lt hT.out
      go_wp2_with fail
      clear cT0 cT1 zT
      refine (checkType_any t w2 (HS.out.below h0 hB2)).mono ?_
      intro e w3 hh
      obtain ⟨he, hb⟩ := hh
      obtain rfl : e = .returned (.int .i64 0) := he.trans (by rw [HO.out]; rfl)
      have hB3 := below_step hB2 hb
      replace hT := hid (blk_below hT.out hb)
      clear hb hB2
      have cT0 := blk_cell hT.out 0
      have cT1 := blk_cell hT.out 1
      have zT := blk_lt hT.out
      go_wp2_with fail
      clear cT0 cT1 zT
      refine (over_yes t.k t.n w3 hr.1 hk).mono ?_
      intro e w4 hh
      obtain ⟨he, hb⟩ := hh
      obtain rfl : e = .returned (.tuple #[.agg #[.int .i64 (t.k + 3), .string t.n], .bool true]) := he
      have hB4 := below_step hB3 hb
      replace hT := hid (blk_below hT.out hb)
      clear hb hB3
      have cT0 := blk_cell hT.out 0
      have cT1 := blk_cell hT.out 1
      have zT := blk_lt hT.out
      go_wp2_with fail
      clear cT0 cT1 zT
      have hB5 := below_alloc hB4 (.cells #[.int .i64 (t.k + 3), .string t.n] 23)
      have hA := blk_new w4 (.cells #[.int .i64 (t.k + 3), .string t.n] 23)
      replace hT := blk_alloc hT.out (.cells #[.int .i64 (t.k + 3), .string t.n] 23)
      have hs5 := size_alloc w4 (.cells #[.int .i64 (t.k + 3), .string t.n] 23)
      generalize hq5 : w4.heap.size = pA at *
      generalize w4.alloc (.cells #[.int .i64 (t.k + 3), .string t.n] 23) = W5 at *
      refine (elem_no t.k t.n W5 (.inl (by omega))).mono ?_
      intro e w6 hh
      obtain ⟨he, hb⟩ := hh
      obtain rfl : e = .returned (.tuple #[.agg #[.int .i64 0, .string ⟨#[]⟩], .bool false]) := he
      have hB6 := below_step hB5 hb
      replace hT := hid (blk_below hT hb)
      replace hA := hid (blk_below hA hb)
      clear hb hB5
      have cT0 := blk_cell hT.out 0
      have cT1 := blk_cell hT.out 1
      have zT := blk_lt hT.out
      have cA0 := blk_cell hA.out 0
      have cA1 := blk_cell hA.out 1
      have zA := blk_lt hA.out
      go_wp2_with fail
      clear cT0 cT1 zT cA0 cA1 zA
      have hB7 := below_alloc hB6 (.cells #[.int .i64 0, .string ⟨#[]⟩] 23)
      have hE := blk_new w6 (.cells #[.int .i64 0, .string ⟨#[]⟩] 23)
      replace hT := blk_alloc hT.out (.cells #[.int .i64 0, .string ⟨#[]⟩] 23)
      replace hA := blk_alloc hA.out (.cells #[.int .i64 0, .string ⟨#[]⟩] 23)
      have hs7 := size_alloc w6 (.cells #[.int .i64 0, .string ⟨#[]⟩] 23)
      generalize hq7 : w6.heap.size = pE at *
      generalize w6.alloc (.cells #[.int .i64 0, .string ⟨#[]⟩] 23) = W7 at *
      refine (elem_yes (t.k + 3) t.n W7 (by omega) (by omega)).mono ?_
      intro e w8 hh
      obtain ⟨he, hb⟩ := hh
      obtain rfl : e = .returned (.tuple #[.agg #[.int .i64 t.k, .string t.n], .bool true]) := he.trans (by rw [e2])
      have hB8 := below_step hB7 hb
      replace hT := hid (blk_below hT hb)
      replace hA := hid (blk_below hA hb)
      replace hE := hid (blk_below hE hb)
      clear hb hB7
      have cT0 := blk_cell hT.out 0
      have cT1 := blk_cell hT.out 1
      have zT := blk_lt hT.out
      have cA0 := blk_cell hA.out 0
      have cA1 := blk_cell hA.out 1
      have zA := blk_lt hA.out
      have cE0 := blk_cell hE.out 0
      have cE1 := blk_cell hE.out 1
      have zE := blk_lt hE.out
      go_wp2_with fail
      clear cT0 cT1 zT cA0 cA1 zA cE0 cE1 zE
      have hB9 := below_alloc hB8 (.cells #[.int .i64 t.k, .string t.n] 23)
      have hC := blk_new w8 (.cells #[.int .i64 t.k, .string t.n] 23)
      replace hT := blk_alloc hT.out (.cells #[.int .i64 t.k, .string t.n] 23)
      replace hA := blk_alloc hA.out (.cells #[.int .i64 t.k, .string t.n] 23)
      replace hE := blk_alloc hE.out (.cells #[.int .i64 t.k, .string t.n] 23)
      have hs9 := size_alloc w8 (.cells #[.int .i64 t.k, .string t.n] 23)
      generalize hq9 : w8.heap.size = pC at *
      generalize w8.alloc (.cells #[.int .i64 t.k, .string t.n] 23) = W9 at *
      refine (checkType_any ⟨t.k + 3, t.n⟩ W9 (HS.out.below h0 hB9)).mono ?_
      intro e w10 hh
      obtain ⟨he, hb⟩ := hh
      obtain rfl : e = .returned (.int .i64 0) := he.trans (by rw [HU.out]; rfl)
      have hB10 := below_step hB9 hb
      replace hT := hid (blk_below hT hb)
      replace hA := hid (blk_below hA hb)
      replace hE := hid (blk_below hE hb)
      replace hC := hid (blk_below hC hb)
      clear hb hB9
      have cT0 := blk_cell hT.out 0
      have cT1 := blk_cell hT.out 1
      have zT := blk_lt hT.out
      have cA0 := blk_cell hA.out 0
      have cA1 := blk_cell hA.out 1
      have zA := blk_lt hA.out
      have cE0 := blk_cell hE.out 0
      have cE1 := blk_cell hE.out 1
      have zE := blk_lt hE.out
      have cC0 := blk_cell hC.out 0
      have cC1 := blk_cell hC.out 1
      have zC := blk_lt hC.out
      go_wp2_with fail
      clear cT0 cT1 zT cA0 cA1 zA cE0 cE1 zE cC0 cC1 zC
      refine (words_any (t.k + 3) t.n w10 (HS.out.below h0 hB10)).mono ?_
      intro e w11 hh
      obtain ⟨he, hb⟩ := hh
      obtain rfl : e = .returned (.int .i64 1) := he.trans (by rw [HW.out])
      have hB11 := below_step hB10 hb
      replace hT := hid (blk_below hT.out hb)
      replace hA := hid (blk_below hA.out hb)
      replace hE := hid (blk_below hE.out hb)
      replace hC := hid (blk_below hC.out hb)
      clear hb hB10
      have cT0 := blk_cell hT.out 0
      have cT1 := blk_cell hT.out 1
      have zT := blk_lt hT.out
      have cA0 := blk_cell hA.out 0
      have cA1 := blk_cell hA.out 1
      have zA := blk_lt hA.out
      have cE0 := blk_cell hE.out 0
      have cE1 := blk_cell hE.out 1
      have zE := blk_lt hE.out
      have cC0 := blk_cell hC.out 0
      have cC1 := blk_cell hC.out 1
      have zC := blk_lt hC.out
      go_wp2_with fail
      clear cT0 cT1 zT cA0 cA1 zA cE0 cE1 zE cC0 cC1 zC
      refine (val_any (t.k + 3) t.n w11 (HS.out.below h0 hB11)).mono ?_
      intro e w12 hh
      obtain ⟨he, hb⟩ := hh
      obtain rfl : e = .returned (.int .i64 3) := he.trans (by rw [HV.out])
      have hB12 := below_step hB11 hb
      replace hT := hid (blk_below hT.out hb)
      replace hA := hid (blk_below hA.out hb)
      replace hE := hid (blk_below hE.out hb)
      replace hC := hid (blk_below hC.out hb)
      clear hb hB11
      have cT0 := blk_cell hT.out 0
      have cT1 := blk_cell hT.out 1
      have zT := blk_lt hT.out
      have cA0 := blk_cell hA.out 0
      have cA1 := blk_cell hA.out 1
      have zA := blk_lt hA.out
      have cE0 := blk_cell hE.out 0
      have cE1 := blk_cell hE.out 1
      have zE := blk_lt hE.out
      have cC0 := blk_cell hC.out 0
      have cC1 := blk_cell hC.out 1
      have zC := blk_lt hC.out
      go_wp2
      go_ret
      exact ⟨rfl, hB12⟩
    · have HD := hid (down_ok ho (by omega))
      have e2 : (t.k - 3) + 3 = t.k := by omega
      have HV : Hid (valOf t.k = 3) := by
        show valOf t.k = 3
        unfold valOf
        rw [if_neg (by omega), if_neg (by omega), if_pos (by omega)]
      clear ho
      go_enter Tryd.func10, Tryd.ntmps10
      go_wp2_with fail
      have hB1 := below_alloc (Below.refl w.heap.size w) (.cells #[.int .i64 t.k, .string t.n] 23)
      have hT := blk_new w (.cells #[.int .i64 t.k, .string t.n] 23)
      have hs1 := size_alloc w (.cells #[.int .i64 t.k, .string t.n] 23)
      generalize w.alloc (.cells #[.int .i64 t.k, .string t.n] 23) = W1 at *
      refine (works_true W1 (HS.out.below h0 hB1)).mono ?_
      intro e w2 hh
      obtain ⟨he, hb⟩ := hh
      obtain rfl : e = .returned (.bool true) := he
      have hB2 := below_step hB1 hb
      replace hT := hid (blk_below hT hb)
      clear hb hB1
      have cT0 := blk_cell hT.out 0
      have cT1 := blk_cell hT.out 1
      have zT := blk_lt hT.out
      go_wp2_with fail
      clear cT0 cT1 zT
      refine (checkType_any t w2 (HS.out.below h0 hB2)).mono ?_
      intro e w3 hh
      obtain ⟨he, hb⟩ := hh
      obtain rfl : e = .returned (.int .i64 0) := he.trans (by rw [HO.out]; rfl)
      have hB3 := below_step hB2 hb
      replace hT := hid (blk_below hT.out hb)
      clear hb hB2
      have cT0 := blk_cell hT.out 0
      have cT1 := blk_cell hT.out 1
      have zT := blk_lt hT.out
      go_wp2_with fail
      clear cT0 cT1 zT
      refine (over_no t.k t.n w3 (.inr (by omega))).mono ?_
      intro e w4 hh
      obtain ⟨he, hb⟩ := hh
      obtain rfl : e = .returned (.tuple #[.agg #[.int .i64 0, .string ⟨#[]⟩], .bool false]) := he
      have hB4 := below_step hB3 hb
      replace hT := hid (blk_below hT.out hb)
      clear hb hB3
      have cT0 := blk_cell hT.out 0
      have cT1 := blk_cell hT.out 1
      have zT := blk_lt hT.out
      go_wp2_with fail
      clear cT0 cT1 zT
      have hB5 := below_alloc hB4 (.cells #[.int .i64 0, .string ⟨#[]⟩] 23)
      have hA := blk_new w4 (.cells #[.int .i64 0, .string ⟨#[]⟩] 23)
      replace hT := blk_alloc hT.out (.cells #[.int .i64 0, .string ⟨#[]⟩] 23)
      have hs5 := size_alloc w4 (.cells #[.int .i64 0, .string ⟨#[]⟩] 23)
      generalize hq5 : w4.heap.size = pA at *
      generalize w4.alloc (.cells #[.int .i64 0, .string ⟨#[]⟩] 23) = W5 at *
      refine (elem_yes t.k t.n W5 (by omega) hr.2).mono ?_
      intro e w6 hh
      obtain ⟨he, hb⟩ := hh
      obtain rfl : e = .returned (.tuple #[.agg #[.int .i64 (t.k - 3), .string t.n], .bool true]) := he
      have hB6 := below_step hB5 hb
      replace hT := hid (blk_below hT hb)
      replace hA := hid (blk_below hA hb)
      clear hb hB5
      have cT0 := blk_cell hT.out 0
      have cT1 := blk_cell hT.out 1
      have zT := blk_lt hT.out
      have cA0 := blk_cell hA.out 0
      have cA1 := blk_cell hA.out 1
      have zA := blk_lt hA.out
      go_wp2_with fail
      clear cT0 cT1 zT cA0 cA1 zA
      have hB7 := below_alloc hB6 (.cells #[.int .i64 (t.k - 3), .string t.n] 23)
      have hE := blk_new w6 (.cells #[.int .i64 (t.k - 3), .string t.n] 23)
      replace hT := blk_alloc hT.out (.cells #[.int .i64 (t.k - 3), .string t.n] 23)
      replace hA := blk_alloc hA.out (.cells #[.int .i64 (t.k - 3), .string t.n] 23)
      have hs7 := size_alloc w6 (.cells #[.int .i64 (t.k - 3), .string t.n] 23)
      generalize hq7 : w6.heap.size = pE at *
      generalize w6.alloc (.cells #[.int .i64 (t.k - 3), .string t.n] 23) = W7 at *
      refine (over_yes (t.k - 3) t.n W7 (by omega) (by omega)).mono ?_
      intro e w8 hh
      obtain ⟨he, hb⟩ := hh
      obtain rfl : e = .returned (.tuple #[.agg #[.int .i64 t.k, .string t.n], .bool true]) := he.trans (by rw [e2])
      have hB8 := below_step hB7 hb
      replace hT := hid (blk_below hT hb)
      replace hA := hid (blk_below hA hb)
      replace hE := hid (blk_below hE hb)
      clear hb hB7
      have cT0 := blk_cell hT.out 0
      have cT1 := blk_cell hT.out 1
      have zT := blk_lt hT.out
      have cA0 := blk_cell hA.out 0
      have cA1 := blk_cell hA.out 1
      have zA := blk_lt hA.out
      have cE0 := blk_cell hE.out 0
      have cE1 := blk_cell hE.out 1
      have zE := blk_lt hE.out
      go_wp2_with fail
      clear cT0 cT1 zT cA0 cA1 zA cE0 cE1 zE
      have hB9 := below_alloc hB8 (.cells #[.int .i64 t.k, .string t.n] 23)
      have hC := blk_new w8 (.cells #[.int .i64 t.k, .string t.n] 23)
      replace hT := blk_alloc hT.out (.cells #[.int .i64 t.k, .string t.n] 23)
      replace hA := blk_alloc hA.out (.cells #[.int .i64 t.k, .string t.n] 23)
      replace hE := blk_alloc hE.out (.cells #[.int .i64 t.k, .string t.n] 23)
      have hs9 := size_alloc w8 (.cells #[.int .i64 t.k, .string t.n] 23)
      generalize hq9 : w8.heap.size = pC at *
      generalize w8.alloc (.cells #[.int .i64 t.k, .string t.n] 23) = W9 at *
      refine (checkType_any ⟨t.k - 3, t.n⟩ W9 (HS.out.below h0 hB9)).mono ?_
      intro e w10 hh
      obtain ⟨he, hb⟩ := hh
      obtain rfl : e = .returned (.int .i64 0) := he.trans (by rw [HD.out]; rfl)
      have hB10 := below_step hB9 hb
      replace hT := hid (blk_below hT hb)
      replace hA := hid (blk_below hA hb)
      replace hE := hid (blk_below hE hb)
      replace hC := hid (blk_below hC hb)
      clear hb hB9
      have cT0 := blk_cell hT.out 0
      have cT1 := blk_cell hT.out 1
      have zT := blk_lt hT.out
      have cA0 := blk_cell hA.out 0
      have cA1 := blk_cell hA.out 1
      have zA := blk_lt hA.out
      have cE0 := blk_cell hE.out 0
      have cE1 := blk_cell hE.out 1
      have zE := blk_lt hE.out
      have cC0 := blk_cell hC.out 0
      have cC1 := blk_cell hC.out 1
      have zC := blk_lt hC.out
      go_wp2_with fail
      clear cT0 cT1 zT cA0 cA1 zA cE0 cE1 zE cC0 cC1 zC
      refine (val_any t.k t.n w10 (HS.out.below h0 hB10)).mono ?_
      intro e w11 hh
      obtain ⟨he, hb⟩ := hh
      obtain rfl : e = .returned (.int .i64 3) := he.trans (by rw [HV.out])
      have hB11 := below_step hB10 hb
      replace hT := hid (blk_below hT.out hb)
      replace hA := hid (blk_below hA.out hb)
      replace hE := hid (blk_below hE.out hb)
      replace hC := hid (blk_below hC.out hb)
      clear hb hB10
      have cT0 := blk_cell hT.out 0
      have cT1 := blk_cell hT.out 1
      have zT := blk_lt hT.out
      have cA0 := blk_cell hA.out 0
      have cA1 := blk_cell hA.out 1
      have zA := blk_lt hA.out
      have cE0 := blk_cell hE.out 0
      have cE1 := blk_cell hE.out 1
      have zE := blk_lt hE.out
      have cC0 := blk_cell hC.out 0
      have cC1 := blk_cell hC.out 1
      have zC := blk_lt hC.out
      go_wp2
      go_ret
      exact ⟨rfl, hB11⟩
set_option maxRecDepth 100000 in
theorem lifted (os : Os) (started : os.Started) (H : Type) (enc : TypeId × Value → H) :
    ReturnsInHanded {} Tryd.checked os 10 .any (fun w args => (Rows.descrOverSpec.pre enc Tryd.prog Tryd.f10 [] false w args ∧ laidMetH Tryd.prog [("warpbeam/descr.signs", Rows.laid_warpbeam_descr_signs)] w) ∧ sizedMet enc Tryd.prog Tryd.f10 (OpenSpec.ofChange Rows.descrOverSpec) false w args)
      (Rows.descrOverSpec.post enc Tryd.prog Tryd.f10 false true false false) := by
  refine returnsInHanded_of_change_and (C := Tryd.checked) (X := fun w _ => laidMetH Tryd.prog [("warpbeam/descr.signs", Rows.laid_warpbeam_descr_signs)] w) (fun _ _ _ hh h => h.of_heap hh) own started (by kernel_rfl) Tryd.func10
    (ChangeSpec.witness_shaped (enc := enc) (C := Tryd.checked) (os := os) (X := fun w _ => laidMetH Tryd.prog [("warpbeam/descr.signs", Rows.laid_warpbeam_descr_signs)] w) false (World.doorLaid Tryd.prog 400 os) #[.agg #[.int .i64 0, .string ByteArray.empty]] 8 rfl (World.shaped_of_RefB (by kernel_rfl) (by kernel_rfl)) (by kernel_rfl) (by kernel_rfl) (by kernel_rfl) (door_met os _)) ?_
  intro W base args ds gs before hval0 hW hcnd hsz0 hL _
  have hval : ∀ (j : Nat) t v, Tryd.f10.params[j]? = some t → args[j]? = some v → Value.okWide Tryd.prog W .any base t v := hval0
  have hsz : (DataW.weightsEach Tryd.prog (Tryd.f10.params.toList ++ Rows.descrOverSpec.plain.varTypes Tryd.prog) (ds ++ gs)).all (· ≤ reachBytes) = true := hsz0
  have hW' := hW
  obtain ⟨p, q, hA0, hV, rfl, hfz, hnd⟩ := hW
  have hA : DataW.TrodAll enc Tryd.prog W 0 (fun _ => true) true Tryd.f10.params.toList args.toList ds p := hA0
  rw [Tryd.params10] at hA hval hsz
  obtain ⟨v0, vs0, d0, ds0, p0, q0, hargs, rfl, rfl, h0, r0⟩ := trodAll_cons hA
  obtain ⟨rfl, rfl, rfl⟩ := trodAll_nil r0
  obtain rfl : args = #[v0] := by cases args; simp_all
  obtain ⟨rfl, rfl⟩ := trodVars_none hV
  have y0 := h0
  obtain ⟨t0, rfl, g0⟩ := openTy (hval 0 23 v0 rfl rfl) h0 (Op.weights_of hsz (j := 0) rfl rfl)
  have hS := sg_of_laid hL
  clear hA0 hval0 hsz0 hsz
  refine (walk t0 W hS g0).mono fun e W' ⟨he, bel⟩ => ?_
  subst he
  exact ⟨_, rfl, _, _, _, [], _, [], hW', trodAll_mk1 (shut_bool Tryd.underlying4 _), (trodAll_cons_mk (Below.trod laidOut (by kernel_rfl) (of_decide_eq_true (by kernel_rfl)) y0 bel (Op.trod_places y0)) trodAll_mk0), rfl, bel.frame _, fun h => by cases h⟩

theorem over : Rows.DescrOverSaid :=
  OpenClaim.holds_of_wide 10 Tryd.f10 rfl rfl rfl rfl rfl rfl rfl ⟨rfl, rfl, rfl, rfl, rfl⟩ rfl rfl rfl rfl rfl (by kernel_rfl) Tryd.func10 (by kernel_rfl)
    (of_decide_eq_true (by kernel_rfl)) (by unfold Func.isWrapper; first | (rw [if_pos (by decide +kernel)]; kernel_rfl) | (rw [if_neg (by decide +kernel)]; exact ⟨rfl, rfl⟩))
    (fun os started H enc _ => lifted os started H enc)

end Go.Proofs.YtcaepnbamnicmaaDoor.descrOver

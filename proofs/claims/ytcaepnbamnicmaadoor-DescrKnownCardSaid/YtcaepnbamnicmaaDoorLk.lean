/- The law DescrKnown (a closed statement): the statement's function returns true, under the table of signs as the program lays it. -/
import Derived.Test.YtcaepnbamnicmaaDoorRl
import Derived.Test.YtcaepnbamnicmaaDoorOq
import Derived.Carry
import Derived.ShutString
import Derived.ChangeOld
import Derived.SizedLaws
import Derived.Test.YtcaepnbamnicmaaDoorLl
namespace Go.Proofs.YtcaepnbamnicmaaDoor.descrKnown
open Go.ChangeShapes Go.WideShapes Go.ChangeAt Go.RowKit
open Go.ChangeMaps (open_string shut_string)
open Go.Proofs.YtcaepnbamnicmaaDoor Go.Proofs.YtcaepnbamnicmaaDoorW.PrintWords
set_option maxHeartbeats 4000000 in
set_option maxRecDepth 100000 in
theorem walk (w : World) (hS : Sg w) :
    Calls Tryd.prog 11 #[] w fun e w' => e = .returned (.bool true) ∧ Below w.heap.size w w' := by
  have HS := hid hS
  have h0 := hS.lt
  have H64 := hid name64
  have HS64 := size64
  have HMORE : Hid (isName (tx l64 ++ ⟨#[110]⟩) = false) := (isName_more name64 110 rfl).trans (by rw [size64]; rfl)
  have HBAD := hid bad3
  have HBL : Hid (lbad.length ≤ 9223372036854775807) := by show lbad.length ≤ _; decide
  have HOK : Hid (tyOk ⟨3, tx l64⟩ = true) := name64
  have HIT : Hid (∀ W, Sg W → Calls Tryd.prog 30 #[.string (⟨#[76]⟩ ++ tx l64 ++ ⟨#[59]⟩), .agg #[.int .i64 3, .string (tx l64)]] W fun e w' => e = .returned (.bool true) ∧ Below W.heap.size W w') := fun W hW => is_text ⟨3, tx l64⟩ W hW name64
  have HR64 : Hid (∀ W, Calls Tryd.prog 41 #[.string ⟨#[110]⟩, .int .i64 64] W fun e w' => e = .returned (.string (tx l64)) ∧ Below W.heap.size W w') := fun W => repeat_is [110] 64 l64 W rep64 (by decide) (by decide)
  generalize tx l64 = s64 at *
  have HR16 : Hid (∀ W, Calls Tryd.prog 41 #[.string ⟨#[73]⟩, .int .i64 16] W fun e w' => e = .returned (.string (tx (List.replicate 16 73))) ∧ Below W.heap.size W w') := fun W => repeat_is [73] 16 _ W rep16 (by decide) (by decide)
  have HR17 : Hid (∀ W, Calls Tryd.prog 41 #[.string ⟨#[73]⟩, .int .i64 17] W fun e w' => e = .returned (.string (tx (List.replicate 17 73))) ∧ Below W.heap.size W w') := fun W => repeat_is [73] 17 _ W rep17 (by decide) (by decide)
  have HT16 := hid p16_text
  have HT17 := hid p17_text
  have hz16 : (tx (List.replicate 16 73)).size = 16 := by rfl
  have hz17 : (tx (List.replicate 17 73)).size = 17 := by rfl
  generalize tx (List.replicate 16 73) = s16 at *
  generalize tx (List.replicate 17 73) = s17 at *
  have hmk : ∀ W : World, (Instr.makeSlice 27 (.int .i64 17) (.int .i64 17)).run Tryd.prog W = .ok (.slice (some ⟨W.heap.size, 0, none⟩) 17 17) (W.alloc (.cells cells17 23)) := mk17
  have hs0 : ((⟨#[]⟩ : ByteArray).toList == (⟨#[]⟩ : ByteArray).toList) = true := strEq _
  clear hS
  go_enter Tryd.func11, Tryd.ntmps11
  go_wp2_with fail
  refine (HR64.out w).mono ?_
  intro e w1 hh
  obtain ⟨he, hb⟩ := hh
  obtain rfl : e = .returned (.string s64) := he
  have hB1 : Below w.heap.size w w1 := hb
  clear hb
  go_wp2_with fail
  refine (is_true [74] ⟨2, ⟨#[]⟩⟩ w1 (HS.out.below h0 hB1) (by simp) (by rfl) (by rfl) (by rfl)).mono ?_
  intro e w2 hh
  obtain ⟨he, hb⟩ := hh
  obtain rfl : e = .returned (.bool true) := he
  have hB2 := below_step hB1 hb
  clear hb hB1
  go_wp2_with fail
  refine (is_true [91, 73] ⟨4, ⟨#[]⟩⟩ w2 (HS.out.below h0 hB2) (by simp) (by rfl) (by rfl) (by rfl)).mono ?_
  intro e w3 hh
  obtain ⟨he, hb⟩ := hh
  obtain rfl : e = .returned (.bool true) := he
  have hB3 := below_step hB2 hb
  clear hb hB2
  go_wp2_with fail
  refine (is_true [91, 74] ⟨5, ⟨#[]⟩⟩ w3 (HS.out.below h0 hB3) (by simp) (by rfl) (by rfl) (by rfl)).mono ?_
  intro e w4 hh
  obtain ⟨he, hb⟩ := hh
  obtain rfl : e = .returned (.bool true) := he
  have hB4 := below_step hB3 hb
  clear hb hB3
  go_wp2_with fail
  refine (HIT.out w4 (HS.out.below h0 hB4)).mono ?_
  intro e w5 hh
  obtain ⟨he, hb⟩ := hh
  obtain rfl : e = .returned (.bool true) := he
  have hB5 := below_step hB4 hb
  clear hb hB4
  go_wp2_with fail
  refine (is_true [76, 95, 59] ⟨3, ⟨#[95]⟩⟩ w5 (HS.out.below h0 hB5) (by simp) (by rfl) (by rfl) (by rfl)).mono ?_
  intro e w6 hh
  obtain ⟨he, hb⟩ := hh
  obtain rfl : e = .returned (.bool true) := he
  have hB6 := below_step hB5 hb
  clear hb hB5
  go_wp2_with fail
  refine (none_true [] w6 (HS.out.below h0 hB6) (by simp) (by rfl) (by rfl)).mono ?_
  intro e w7 hh
  obtain ⟨he, hb⟩ := hh
  obtain rfl : e = .returned (.bool true) := he
  have hB7 := below_step hB6 hb
  clear hb hB6
  go_wp2_with fail
  refine (none_true [91] w7 (HS.out.below h0 hB7) (by simp) (by rfl) (by rfl)).mono ?_
  intro e w8 hh
  obtain ⟨he, hb⟩ := hh
  obtain rfl : e = .returned (.bool true) := he
  have hB8 := below_step hB7 hb
  clear hb hB7
  go_wp2_with fail
  refine (none_true [91, 86] w8 (HS.out.below h0 hB8) (by simp) (by rfl) (by rfl)).mono ?_
  intro e w9 hh
  obtain ⟨he, hb⟩ := hh
  obtain rfl : e = .returned (.bool true) := he
  have hB9 := below_step hB8 hb
  clear hb hB8
  go_wp2_with fail
  rw [HBAD.out]
  refine (none_true lbad w9 (HS.out.below h0 hB9) HBL.out bad1 bad2).mono ?_
  intro e w10 hh
  obtain ⟨he, hb⟩ := hh
  obtain rfl : e = .returned (.bool true) := he
  have hB10 := below_step hB9 hb
  clear hb hB9
  go_wp2_with fail
  refine (none_true [76, 97] w10 (HS.out.below h0 hB10) (by simp) (by rfl) (by rfl)).mono ?_
  intro e w11 hh
  obtain ⟨he, hb⟩ := hh
  obtain rfl : e = .returned (.bool true) := he
  have hB11 := below_step hB10 hb
  clear hb hB10
  go_wp2_with fail
  refine (none_true [76, 97, 59, 59] w11 (HS.out.below h0 hB11) (by simp) (by rfl) (by rfl)).mono ?_
  intro e w12 hh
  obtain ⟨he, hb⟩ := hh
  obtain rfl : e = .returned (.bool true) := he
  have hB12 := below_step hB11 hb
  clear hb hB11
  go_wp2_with fail
  refine (none_true [76, 97, 45, 98, 59] w12 (HS.out.below h0 hB12) (by simp) (by rfl) (by rfl)).mono ?_
  intro e w13 hh
  obtain ⟨he, hb⟩ := hh
  obtain rfl : e = .returned (.bool true) := he
  have hB13 := below_step hB12 hb
  clear hb hB12
  go_wp2_with fail
  refine (none_true [76, 49, 59] w13 (HS.out.below h0 hB13) (by simp) (by rfl) (by rfl)).mono ?_
  intro e w14 hh
  obtain ⟨he, hb⟩ := hh
  obtain rfl : e = .returned (.bool true) := he
  have hB14 := below_step hB13 hb
  clear hb hB13
  go_wp2_with fail
  refine (none_true [91, 76, 97] w14 (HS.out.below h0 hB14) (by simp) (by rfl) (by rfl)).mono ?_
  intro e w15 hh
  obtain ⟨he, hb⟩ := hh
  obtain rfl : e = .returned (.bool true) := he
  have hB15 := below_step hB14 hb
  clear hb hB14
  go_wp2_with fail
  refine (none_true [105] w15 (HS.out.below h0 hB15) (by simp) (by rfl) (by rfl)).mono ?_
  intro e w16 hh
  obtain ⟨he, hb⟩ := hh
  obtain rfl : e = .returned (.bool true) := he
  have hB16 := below_step hB15 hb
  clear hb hB15
  go_wp2_with fail
  refine (none_true [32, 73] w16 (HS.out.below h0 hB16) (by simp) (by rfl) (by rfl)).mono ?_
  intro e w17 hh
  obtain ⟨he, hb⟩ := hh
  obtain rfl : e = .returned (.bool true) := he
  have hB17 := below_step hB16 hb
  clear hb hB16
  go_wp2_with fail
  refine (none_true [73, 32] w17 (HS.out.below h0 hB17) (by simp) (by rfl) (by rfl)).mono ?_
  intro e w18 hh
  obtain ⟨he, hb⟩ := hh
  obtain rfl : e = .returned (.bool true) := he
  have hB18 := below_step hB17 hb
  clear hb hB17
  go_wp2_with fail
  refine (none_true [40] w18 (HS.out.below h0 hB18) (by simp) (by rfl) (by rfl)).mono ?_
  intro e w19 hh
  obtain ⟨he, hb⟩ := hh
  obtain rfl : e = .returned (.bool true) := he
  have hB19 := below_step hB18 hb
  clear hb hB18
  go_wp2_with fail
  refine (none_true [40, 41] w19 (HS.out.below h0 hB19) (by simp) (by rfl) (by rfl)).mono ?_
  intro e w20 hh
  obtain ⟨he, hb⟩ := hh
  obtain rfl : e = .returned (.bool true) := he
  have hB20 := below_step hB19 hb
  clear hb hB19
  go_wp2_with fail
  refine (none_true [40, 41, 86, 86] w20 (HS.out.below h0 hB20) (by simp) (by rfl) (by rfl)).mono ?_
  intro e w21 hh
  obtain ⟨he, hb⟩ := hh
  obtain rfl : e = .returned (.bool true) := he
  have hB21 := below_step hB20 hb
  clear hb hB20
  go_wp2_with fail
  refine (none_true [40, 86, 41, 73] w21 (HS.out.below h0 hB21) (by simp) (by rfl) (by rfl)).mono ?_
  intro e w22 hh
  obtain ⟨he, hb⟩ := hh
  obtain rfl : e = .returned (.bool true) := he
  have hB22 := below_step hB21 hb
  clear hb hB21
  go_wp2_with fail
  refine (none_true [40, 73, 41] w22 (HS.out.below h0 hB22) (by simp) (by rfl) (by rfl)).mono ?_
  intro e w23 hh
  obtain ⟨he, hb⟩ := hh
  obtain rfl : e = .returned (.bool true) := he
  have hB23 := below_step hB22 hb
  clear hb hB22
  go_wp2_with fail
  refine (none_true [73, 40, 41, 86] w23 (HS.out.below h0 hB23) (by simp) (by rfl) (by rfl)).mono ?_
  intro e w24 hh
  obtain ⟨he, hb⟩ := hh
  obtain rfl : e = .returned (.bool true) := he
  have hB24 := below_step hB23 hb
  clear hb hB23
  go_wp2_with fail
  refine (none_true [40, 73, 41, 41, 86] w24 (HS.out.below h0 hB24) (by simp) (by rfl) (by rfl)).mono ?_
  intro e w25 hh
  obtain ⟨he, hb⟩ := hh
  obtain rfl : e = .returned (.bool true) := he
  have hB25 := below_step hB24 hb
  clear hb hB24
  go_wp2_with fail
  refine (none_true [40, 76, 97, 41, 86] w25 (HS.out.below h0 hB25) (by simp) (by rfl) (by rfl)).mono ?_
  intro e w26 hh
  obtain ⟨he, hb⟩ := hh
  obtain rfl : e = .returned (.bool true) := he
  have hB26 := below_step hB25 hb
  clear hb hB25
  go_wp2_with fail
  refine (HR16.out w26).mono ?_
  intro e w27 hh
  obtain ⟨he, hb⟩ := hh
  obtain rfl : e = .returned (.string s16) := he
  have hB27 := below_step hB26 hb
  clear hb hB26
  go_wp2_with fail
  rw [HT16.out]
  refine (proto_any lp16 w27 (HS.out.below h0 hB27) (by decide)).mono ?_
  intro e w28 hh
  obtain ⟨he, hb⟩ := hh
  have hB28 := below_step hB27 hb
  clear hb hB27
  obtain ⟨gP, cP, he, hC⟩ := ProtoAns.row p16_read (by decide) he
  obtain rfl : e = .returned (.tuple #[.agg #[.int .i64 5, .string ⟨#[]⟩, .slice (some ⟨gP, 0, none⟩) 16 cP], .int .i64 0]) := he
  have HCP := hid hC
  clear hC
  go_wp2_with fail
  have hB29 := below_alloc hB28 (.cells #[.int .i64 5, .string ⟨#[]⟩, .slice (some ⟨gP, 0, none⟩) 16 cP] 29)
  have hA := blk_new w28 (.cells #[.int .i64 5, .string ⟨#[]⟩, .slice (some ⟨gP, 0, none⟩) 16 cP] 29)
  replace HCP := Kd.C_alloc HCP.out (.cells #[.int .i64 5, .string ⟨#[]⟩, .slice (some ⟨gP, 0, none⟩) 16 cP] 29)
  have hs29 := size_alloc w28 (.cells #[.int .i64 5, .string ⟨#[]⟩, .slice (some ⟨gP, 0, none⟩) 16 cP] 29)
  generalize hq29 : w28.heap.size = pA at *
  generalize w28.alloc (.cells #[.int .i64 5, .string ⟨#[]⟩, .slice (some ⟨gP, 0, none⟩) 16 cP] 29) = W29 at *
  refine (HR17.out W29).mono ?_
  intro e w30 hh
  obtain ⟨he, hb⟩ := hh
  obtain rfl : e = .returned (.string s17) := he
  have hB30 := below_step hB29 hb
  replace HCP := hid (Kd.C_below HCP hb)
  replace hA := hid (blk_below hA hb)
  clear hb hB29
  have cA0 := blk_cell hA.out 0
  have cA1 := blk_cell hA.out 1
  have cA2 := blk_cell hA.out 2
  have zA := blk_lt hA.out
  go_wp2_with fail
  clear cA0 cA1 cA2 zA
  rw [HT17.out]
  refine (proto_any lp17 w30 (HS.out.below h0 hB30) (by decide)).mono ?_
  intro e w31 hh
  obtain ⟨he, hb⟩ := hh
  have hB31 := below_step hB30 hb
  replace HCP := hid (Kd.C_below HCP.out hb)
  replace hA := hid (blk_below hA.out hb)
  clear hb hB30
  unfold ProtoAns at he
  rw [p17_read] at he
  subst he
  have cA0 := blk_cell hA.out 0
  have cA1 := blk_cell hA.out 1
  have cA2 := blk_cell hA.out 2
  have zA := blk_lt hA.out
  go_wp2_with fail
  clear cA0 cA1 cA2 zA
  have hB32 := below_alloc hB31 (.cells #[.int .i64 0, .string ⟨#[]⟩, .slice none 0 0] 29)
  have hB := blk_new w31 (.cells #[.int .i64 0, .string ⟨#[]⟩, .slice none 0 0] 29)
  replace HCP := Kd.C_alloc HCP.out (.cells #[.int .i64 0, .string ⟨#[]⟩, .slice none 0 0] 29)
  replace hA := blk_alloc hA.out (.cells #[.int .i64 0, .string ⟨#[]⟩, .slice none 0 0] 29)
  have hs32 := size_alloc w31 (.cells #[.int .i64 0, .string ⟨#[]⟩, .slice none 0 0] 29)
  generalize hq32 : w31.heap.size = pB at *
  generalize w31.alloc (.cells #[.int .i64 0, .string ⟨#[]⟩, .slice none 0 0] 29) = W32 at *
  refine (proto_any [40, 41, 86] W32 (HS.out.below h0 hB32) (by simp)).mono ?_
  intro e w33 hh
  obtain ⟨he, hb⟩ := hh
  have hB33 := below_step hB32 hb
  replace HCP := hid (Kd.C_below HCP hb)
  replace hA := hid (blk_below hA hb)
  replace hB := hid (blk_below hB hb)
  clear hb hB32
  obtain ⟨Q, cQ, he, hd, hC⟩ := ProtoAns.ok p0_read he
  obtain rfl : e = .returned (.tuple #[.agg #[.int .i64 0, .string ⟨#[]⟩, .slice Q 0 cQ], .int .i64 0]) := he
  have HCQ := hid hC
  clear hC
  have cA0 := blk_cell hA.out 0
  have cA1 := blk_cell hA.out 1
  have cA2 := blk_cell hA.out 2
  have zA := blk_lt hA.out
  have cB0 := blk_cell hB.out 0
  have cB1 := blk_cell hB.out 1
  have cB2 := blk_cell hB.out 2
  have zB := blk_lt hB.out
  go_wp2_with fail
  clear cA0 cA1 cA2 zA cB0 cB1 cB2 zB
  have hB34 := below_alloc hB33 (.cells #[.int .i64 0, .string ⟨#[]⟩, .slice Q 0 cQ] 29)
  have hC := blk_new w33 (.cells #[.int .i64 0, .string ⟨#[]⟩, .slice Q 0 cQ] 29)
  replace HCP := Kd.C_alloc HCP.out (.cells #[.int .i64 0, .string ⟨#[]⟩, .slice Q 0 cQ] 29)
  replace hA := blk_alloc hA.out (.cells #[.int .i64 0, .string ⟨#[]⟩, .slice Q 0 cQ] 29)
  replace hB := blk_alloc hB.out (.cells #[.int .i64 0, .string ⟨#[]⟩, .slice Q 0 cQ] 29)
  replace HCQ := Kd.C_alloc HCQ.out (.cells #[.int .i64 0, .string ⟨#[]⟩, .slice Q 0 cQ] 29)
  have hs34 := size_alloc w33 (.cells #[.int .i64 0, .string ⟨#[]⟩, .slice Q 0 cQ] 29)
  generalize hq34 : w33.heap.size = pC at *
  generalize w33.alloc (.cells #[.int .i64 0, .string ⟨#[]⟩, .slice Q 0 cQ] 29) = W34 at *
  have hB35 := below_alloc hB34 (.cells cells17 23)
  have hZ := blk_new W34 (.cells cells17 23)
  rw [hs34] at hZ
  replace HCP := Kd.C_alloc HCP (.cells cells17 23)
  replace hA := blk_alloc hA (.cells cells17 23)
  replace hB := blk_alloc hB (.cells cells17 23)
  replace HCQ := Kd.C_alloc HCQ (.cells cells17 23)
  replace hC := blk_alloc hC (.cells cells17 23)
  have hs35 := size_alloc W34 (.cells cells17 23)
  generalize W34.alloc (.cells cells17 23) = W35 at *
  refine (writeProto_no zTy (some ⟨pC + 1, 0, none⟩) z17 17 W35 (HS.out.below h0 hB35) (rowOf hZ cells17_is (by decide)) (by rw [err17]; decide)).mono ?_
  intro e w36 hh
  obtain ⟨he, hb⟩ := hh
  obtain rfl : e = .returned (.tuple #[.string ⟨#[]⟩, .int .i64 5]) := he.trans (by rw [err17])
  clear he
  have hB36 := below_step hB35 hb
  replace HCP := hid (Kd.C_below HCP hb)
  replace hA := hid (blk_below hA hb)
  replace hB := hid (blk_below hB hb)
  replace HCQ := hid (Kd.C_below HCQ hb)
  replace hC := hid (blk_below hC hb)
  replace hZ := hid (blk_below hZ hb)
  clear hb hB35
  have cA0 := blk_cell hA.out 0
  have cA1 := blk_cell hA.out 1
  have cA2 := blk_cell hA.out 2
  have zA := blk_lt hA.out
  have cB0 := blk_cell hB.out 0
  have cB1 := blk_cell hB.out 1
  have cB2 := blk_cell hB.out 2
  have zB := blk_lt hB.out
  have cC0 := blk_cell hC.out 0
  have cC1 := blk_cell hC.out 1
  have cC2 := blk_cell hC.out 2
  have zC := blk_lt hC.out
  have zZ := blk_lt hZ.out
  clear zZ
  clear hZ
  go_wp2_with fail
  clear cA0 cA1 cA2 zA cB0 cB1 cB2 zB cC0 cC1 cC2 zC
  have hB37 := below_alloc hB36 (.cells #[.int .i64 0, .string ⟨#[]⟩] 23)
  have hN := blk_new w36 (.cells #[.int .i64 0, .string ⟨#[]⟩] 23)
  replace HCP := Kd.C_alloc HCP.out (.cells #[.int .i64 0, .string ⟨#[]⟩] 23)
  replace hA := blk_alloc hA.out (.cells #[.int .i64 0, .string ⟨#[]⟩] 23)
  replace hB := blk_alloc hB.out (.cells #[.int .i64 0, .string ⟨#[]⟩] 23)
  replace HCQ := Kd.C_alloc HCQ.out (.cells #[.int .i64 0, .string ⟨#[]⟩] 23)
  replace hC := blk_alloc hC.out (.cells #[.int .i64 0, .string ⟨#[]⟩] 23)
  have hs37 := size_alloc w36 (.cells #[.int .i64 0, .string ⟨#[]⟩] 23)
  generalize hq37 : w36.heap.size = pN at *
  generalize w36.alloc (.cells #[.int .i64 0, .string ⟨#[]⟩] 23) = W37 at *
  refine (writeProto_no zTy (some ⟨pN, 0, none⟩) [zTy] 1 W37 (HS.out.below h0 hB37) (rowOf hN rfl (by decide)) (by rw [err1]; decide)).mono ?_
  intro e w38 hh
  obtain ⟨he, hb⟩ := hh
  obtain rfl : e = .returned (.tuple #[.string ⟨#[]⟩, .int .i64 2]) := he.trans (by rw [err1])
  clear he
  have hB38 := below_step hB37 hb
  replace HCP := hid (Kd.C_below HCP hb)
  replace hA := hid (blk_below hA hb)
  replace hB := hid (blk_below hB hb)
  replace HCQ := hid (Kd.C_below HCQ hb)
  replace hC := hid (blk_below hC hb)
  replace hN := hid (blk_below hN hb)
  clear hb hB37
  have cA0 := blk_cell hA.out 0
  have cA1 := blk_cell hA.out 1
  have cA2 := blk_cell hA.out 2
  have zA := blk_lt hA.out
  have cB0 := blk_cell hB.out 0
  have cB1 := blk_cell hB.out 1
  have cB2 := blk_cell hB.out 2
  have zB := blk_lt hB.out
  have cC0 := blk_cell hC.out 0
  have cC1 := blk_cell hC.out 1
  have cC2 := blk_cell hC.out 2
  have zC := blk_lt hC.out
  have cN0 := blk_cell hN.out 0
  have cN1 := blk_cell hN.out 1
  have zN := blk_lt hN.out
  clear cN0 cN1 zN
  clear hN
  go_wp2_with fail
  clear cA0 cA1 cA2 zA cB0 cB1 cB2 zB cC0 cC1 cC2 zC
  refine (writeProto_no ⟨0, ⟨#[97]⟩⟩ none [] 0 w38 (HS.out.below h0 hB38) (Kd.C_nil _ _) (by rw [errA]; decide)).mono ?_
  intro e w39 hh
  obtain ⟨he, hb⟩ := hh
  obtain rfl : e = .returned (.tuple #[.string ⟨#[]⟩, .int .i64 2]) := he.trans (by rw [errA])
  clear he
  have hB39 := below_step hB38 hb
  replace HCP := hid (Kd.C_below HCP.out hb)
  replace hA := hid (blk_below hA.out hb)
  replace hB := hid (blk_below hB.out hb)
  replace HCQ := hid (Kd.C_below HCQ.out hb)
  replace hC := hid (blk_below hC.out hb)
  clear hb hB38
  have cA0 := blk_cell hA.out 0
  have cA1 := blk_cell hA.out 1
  have cA2 := blk_cell hA.out 2
  have zA := blk_lt hA.out
  have cB0 := blk_cell hB.out 0
  have cB1 := blk_cell hB.out 1
  have cB2 := blk_cell hB.out 2
  have zB := blk_lt hB.out
  have cC0 := blk_cell hC.out 0
  have cC1 := blk_cell hC.out 1
  have cC2 := blk_cell hC.out 2
  have zC := blk_lt hC.out
  go_wp2_with fail
  clear cA0 cA1 cA2 zA cB0 cB1 cB2 zB cC0 cC1 cC2 zC
  refine (writeType_no 0 ⟨#[]⟩ w39 (HS.out.below h0 hB39) (by rfl)).mono ?_
  intro e w40 hh
  obtain ⟨he, hb⟩ := hh
  obtain rfl : e = .returned (.tuple #[.string ⟨#[]⟩, .int .i64 2]) := he
  have hB40 := below_step hB39 hb
  replace HCP := hid (Kd.C_below HCP.out hb)
  replace hA := hid (blk_below hA.out hb)
  replace hB := hid (blk_below hB.out hb)
  replace HCQ := hid (Kd.C_below HCQ.out hb)
  replace hC := hid (blk_below hC.out hb)
  clear hb hB39
  have cA0 := blk_cell hA.out 0
  have cA1 := blk_cell hA.out 1
  have cA2 := blk_cell hA.out 2
  have zA := blk_lt hA.out
  have cB0 := blk_cell hB.out 0
  have cB1 := blk_cell hB.out 1
  have cB2 := blk_cell hB.out 2
  have zB := blk_lt hB.out
  have cC0 := blk_cell hC.out 0
  have cC1 := blk_cell hC.out 1
  have cC2 := blk_cell hC.out 2
  have zC := blk_lt hC.out
  go_wp2_with fail
  clear cA0 cA1 cA2 zA cB0 cB1 cB2 zB cC0 cC1 cC2 zC
  refine (writeType_no 1 ⟨#[97]⟩ w40 (HS.out.below h0 hB40) (by rfl)).mono ?_
  intro e w41 hh
  obtain ⟨he, hb⟩ := hh
  obtain rfl : e = .returned (.tuple #[.string ⟨#[]⟩, .int .i64 2]) := he
  have hB41 := below_step hB40 hb
  replace HCP := hid (Kd.C_below HCP.out hb)
  replace hA := hid (blk_below hA.out hb)
  replace hB := hid (blk_below hB.out hb)
  replace HCQ := hid (Kd.C_below HCQ.out hb)
  replace hC := hid (blk_below hC.out hb)
  clear hb hB40
  have cA0 := blk_cell hA.out 0
  have cA1 := blk_cell hA.out 1
  have cA2 := blk_cell hA.out 2
  have zA := blk_lt hA.out
  have cB0 := blk_cell hB.out 0
  have cB1 := blk_cell hB.out 1
  have cB2 := blk_cell hB.out 2
  have zB := blk_lt hB.out
  have cC0 := blk_cell hC.out 0
  have cC1 := blk_cell hC.out 1
  have cC2 := blk_cell hC.out 2
  have zC := blk_lt hC.out
  go_wp2_with fail
  clear cA0 cA1 cA2 zA cB0 cB1 cB2 zB cC0 cC1 cC2 zC
  refine (writeType_no 3 ⟨#[]⟩ w41 (HS.out.below h0 hB41) (by rfl)).mono ?_
  intro e w42 hh
  obtain ⟨he, hb⟩ := hh
  obtain rfl : e = .returned (.tuple #[.string ⟨#[]⟩, .int .i64 2]) := he
  have hB42 := below_step hB41 hb
  replace HCP := hid (Kd.C_below HCP.out hb)
  replace hA := hid (blk_below hA.out hb)
  replace hB := hid (blk_below hB.out hb)
  replace HCQ := hid (Kd.C_below HCQ.out hb)
  replace hC := hid (blk_below hC.out hb)
  clear hb hB41
  have cA0 := blk_cell hA.out 0
  have cA1 := blk_cell hA.out 1
  have cA2 := blk_cell hA.out 2
  have zA := blk_lt hA.out
  have cB0 := blk_cell hB.out 0
  have cB1 := blk_cell hB.out 1
  have cB2 := blk_cell hB.out 2
  have zB := blk_lt hB.out
  have cC0 := blk_cell hC.out 0
  have cC1 := blk_cell hC.out 1
  have cC2 := blk_cell hC.out 2
  have zC := blk_lt hC.out
  go_wp2_with fail
  clear cA0 cA1 cA2 zA cB0 cB1 cB2 zB cC0 cC1 cC2 zC
  refine (writeType_no 7 ⟨#[]⟩ w42 (HS.out.below h0 hB42) (by rfl)).mono ?_
  intro e w43 hh
  obtain ⟨he, hb⟩ := hh
  obtain rfl : e = .returned (.tuple #[.string ⟨#[]⟩, .int .i64 2]) := he
  have hB43 := below_step hB42 hb
  replace HCP := hid (Kd.C_below HCP.out hb)
  replace hA := hid (blk_below hA.out hb)
  replace hB := hid (blk_below hB.out hb)
  replace HCQ := hid (Kd.C_below HCQ.out hb)
  replace hC := hid (blk_below hC.out hb)
  clear hb hB42
  have cA0 := blk_cell hA.out 0
  have cA1 := blk_cell hA.out 1
  have cA2 := blk_cell hA.out 2
  have zA := blk_lt hA.out
  have cB0 := blk_cell hB.out 0
  have cB1 := blk_cell hB.out 1
  have cB2 := blk_cell hB.out 2
  have zB := blk_lt hB.out
  have cC0 := blk_cell hC.out 0
  have cC1 := blk_cell hC.out 1
  have cC2 := blk_cell hC.out 2
  have zC := blk_lt hC.out
  go_wp2_with fail
  clear cA0 cA1 cA2 zA cB0 cB1 cB2 zB cC0 cC1 cC2 zC
  refine (isName_is (s := ⟨#[65]⟩) (b := true) (by rfl) w43).mono ?_
  intro e w44 hh
  obtain ⟨he, hb⟩ := hh
  obtain rfl : e = .returned (.bool true) := he
  have hB44 := below_step hB43 hb
  replace HCP := hid (Kd.C_below HCP.out hb)
  replace hA := hid (blk_below hA.out hb)
  replace hB := hid (blk_below hB.out hb)
  replace HCQ := hid (Kd.C_below HCQ.out hb)
  replace hC := hid (blk_below hC.out hb)
  clear hb hB43
  have cA0 := blk_cell hA.out 0
  have cA1 := blk_cell hA.out 1
  have cA2 := blk_cell hA.out 2
  have zA := blk_lt hA.out
  have cB0 := blk_cell hB.out 0
  have cB1 := blk_cell hB.out 1
  have cB2 := blk_cell hB.out 2
  have zB := blk_lt hB.out
  have cC0 := blk_cell hC.out 0
  have cC1 := blk_cell hC.out 1
  have cC2 := blk_cell hC.out 2
  have zC := blk_lt hC.out
  go_wp2_with fail
  clear cA0 cA1 cA2 zA cB0 cB1 cB2 zB cC0 cC1 cC2 zC
  refine (isName_is (s := ⟨#[122, 57, 36, 95]⟩) (b := true) (by rfl) w44).mono ?_
  intro e w45 hh
  obtain ⟨he, hb⟩ := hh
  obtain rfl : e = .returned (.bool true) := he
  have hB45 := below_step hB44 hb
  replace HCP := hid (Kd.C_below HCP.out hb)
  replace hA := hid (blk_below hA.out hb)
  replace hB := hid (blk_below hB.out hb)
  replace HCQ := hid (Kd.C_below HCQ.out hb)
  replace hC := hid (blk_below hC.out hb)
  clear hb hB44
  have cA0 := blk_cell hA.out 0
  have cA1 := blk_cell hA.out 1
  have cA2 := blk_cell hA.out 2
  have zA := blk_lt hA.out
  have cB0 := blk_cell hB.out 0
  have cB1 := blk_cell hB.out 1
  have cB2 := blk_cell hB.out 2
  have zB := blk_lt hB.out
  have cC0 := blk_cell hC.out 0
  have cC1 := blk_cell hC.out 1
  have cC2 := blk_cell hC.out 2
  have zC := blk_lt hC.out
  go_wp2_with fail
  clear cA0 cA1 cA2 zA cB0 cB1 cB2 zB cC0 cC1 cC2 zC
  refine (isName_is (s := ⟨#[]⟩) (b := false) (by rfl) w45).mono ?_
  intro e w46 hh
  obtain ⟨he, hb⟩ := hh
  obtain rfl : e = .returned (.bool false) := he
  have hB46 := below_step hB45 hb
  replace HCP := hid (Kd.C_below HCP.out hb)
  replace hA := hid (blk_below hA.out hb)
  replace hB := hid (blk_below hB.out hb)
  replace HCQ := hid (Kd.C_below HCQ.out hb)
  replace hC := hid (blk_below hC.out hb)
  clear hb hB45
  have cA0 := blk_cell hA.out 0
  have cA1 := blk_cell hA.out 1
  have cA2 := blk_cell hA.out 2
  have zA := blk_lt hA.out
  have cB0 := blk_cell hB.out 0
  have cB1 := blk_cell hB.out 1
  have cB2 := blk_cell hB.out 2
  have zB := blk_lt hB.out
  have cC0 := blk_cell hC.out 0
  have cC1 := blk_cell hC.out 1
  have cC2 := blk_cell hC.out 2
  have zC := blk_lt hC.out
  go_wp2_with fail
  clear cA0 cA1 cA2 zA cB0 cB1 cB2 zB cC0 cC1 cC2 zC
  refine (isName_is (s := ⟨#[57]⟩) (b := false) (by rfl) w46).mono ?_
  intro e w47 hh
  obtain ⟨he, hb⟩ := hh
  obtain rfl : e = .returned (.bool false) := he
  have hB47 := below_step hB46 hb
  replace HCP := hid (Kd.C_below HCP.out hb)
  replace hA := hid (blk_below hA.out hb)
  replace hB := hid (blk_below hB.out hb)
  replace HCQ := hid (Kd.C_below HCQ.out hb)
  replace hC := hid (blk_below hC.out hb)
  clear hb hB46
  have cA0 := blk_cell hA.out 0
  have cA1 := blk_cell hA.out 1
  have cA2 := blk_cell hA.out 2
  have zA := blk_lt hA.out
  have cB0 := blk_cell hB.out 0
  have cB1 := blk_cell hB.out 1
  have cB2 := blk_cell hB.out 2
  have zB := blk_lt hB.out
  have cC0 := blk_cell hC.out 0
  have cC1 := blk_cell hC.out 1
  have cC2 := blk_cell hC.out 2
  have zC := blk_lt hC.out
  go_wp2_with fail
  clear cA0 cA1 cA2 zA cB0 cB1 cB2 zB cC0 cC1 cC2 zC
  refine (isName_is (s := ⟨#[97, 46, 98]⟩) (b := false) (by rfl) w47).mono ?_
  intro e w48 hh
  obtain ⟨he, hb⟩ := hh
  obtain rfl : e = .returned (.bool false) := he
  have hB48 := below_step hB47 hb
  replace HCP := hid (Kd.C_below HCP.out hb)
  replace hA := hid (blk_below hA.out hb)
  replace hB := hid (blk_below hB.out hb)
  replace HCQ := hid (Kd.C_below HCQ.out hb)
  replace hC := hid (blk_below hC.out hb)
  clear hb hB47
  have cA0 := blk_cell hA.out 0
  have cA1 := blk_cell hA.out 1
  have cA2 := blk_cell hA.out 2
  have zA := blk_lt hA.out
  have cB0 := blk_cell hB.out 0
  have cB1 := blk_cell hB.out 1
  have cB2 := blk_cell hB.out 2
  have zB := blk_lt hB.out
  have cC0 := blk_cell hC.out 0
  have cC1 := blk_cell hC.out 1
  have cC2 := blk_cell hC.out 2
  have zC := blk_lt hC.out
  go_wp2_with fail
  clear cA0 cA1 cA2 zA cB0 cB1 cB2 zB cC0 cC1 cC2 zC
  refine (isName_is (s := ⟨#[195, 164]⟩) (b := false) (by rfl) w48).mono ?_
  intro e w49 hh
  obtain ⟨he, hb⟩ := hh
  obtain rfl : e = .returned (.bool false) := he
  have hB49 := below_step hB48 hb
  replace HCP := hid (Kd.C_below HCP.out hb)
  replace hA := hid (blk_below hA.out hb)
  replace hB := hid (blk_below hB.out hb)
  replace HCQ := hid (Kd.C_below HCQ.out hb)
  replace hC := hid (blk_below hC.out hb)
  clear hb hB48
  have cA0 := blk_cell hA.out 0
  have cA1 := blk_cell hA.out 1
  have cA2 := blk_cell hA.out 2
  have zA := blk_lt hA.out
  have cB0 := blk_cell hB.out 0
  have cB1 := blk_cell hB.out 1
  have cB2 := blk_cell hB.out 2
  have zB := blk_lt hB.out
  have cC0 := blk_cell hC.out 0
  have cC1 := blk_cell hC.out 1
  have cC2 := blk_cell hC.out 2
  have zC := blk_lt hC.out
  go_wp2_with fail
  clear cA0 cA1 cA2 zA cB0 cB1 cB2 zB cC0 cC1 cC2 zC
  refine (isName_is H64.out w49).mono ?_
  intro e w50 hh
  obtain ⟨he, hb⟩ := hh
  obtain rfl : e = .returned (.bool true) := he
  have hB50 := below_step hB49 hb
  replace HCP := hid (Kd.C_below HCP.out hb)
  replace hA := hid (blk_below hA.out hb)
  replace hB := hid (blk_below hB.out hb)
  replace HCQ := hid (Kd.C_below HCQ.out hb)
  replace hC := hid (blk_below hC.out hb)
  clear hb hB49
  have cA0 := blk_cell hA.out 0
  have cA1 := blk_cell hA.out 1
  have cA2 := blk_cell hA.out 2
  have zA := blk_lt hA.out
  have cB0 := blk_cell hB.out 0
  have cB1 := blk_cell hB.out 1
  have cB2 := blk_cell hB.out 2
  have zB := blk_lt hB.out
  have cC0 := blk_cell hC.out 0
  have cC1 := blk_cell hC.out 1
  have cC2 := blk_cell hC.out 2
  have zC := blk_lt hC.out
  go_wp2_with fail
  clear cA0 cA1 cA2 zA cB0 cB1 cB2 zB cC0 cC1 cC2 zC
  refine (isName_is HMORE.out w50).mono ?_
  intro e w51 hh
  obtain ⟨he, hb⟩ := hh
  obtain rfl : e = .returned (.bool false) := he
  have hB51 := below_step hB50 hb
  replace HCP := hid (Kd.C_below HCP.out hb)
  replace hA := hid (blk_below hA.out hb)
  replace hB := hid (blk_below hB.out hb)
  replace HCQ := hid (Kd.C_below HCQ.out hb)
  replace hC := hid (blk_below hC.out hb)
  clear hb hB50
  have cA0 := blk_cell hA.out 0
  have cA1 := blk_cell hA.out 1
  have cA2 := blk_cell hA.out 2
  have zA := blk_lt hA.out
  have cB0 := blk_cell hB.out 0
  have cB1 := blk_cell hB.out 1
  have cB2 := blk_cell hB.out 2
  have zB := blk_lt hB.out
  have cC0 := blk_cell hC.out 0
  have cC1 := blk_cell hC.out 1
  have cC2 := blk_cell hC.out 2
  have zC := blk_lt hC.out
  go_wp2_with fail
  clear cA0 cA1 cA2 zA cB0 cB1 cB2 zB cC0 cC1 cC2 zC
  refine (words_any (0) ⟨#[]⟩ w51 (HS.out.below h0 hB51)).mono ?_
  intro e w52 hh
  obtain ⟨he, hb⟩ := hh
  obtain rfl : e = .returned (.int .i64 0) := he
  have hB52 := below_step hB51 hb
  replace HCP := hid (Kd.C_below HCP.out hb)
  replace hA := hid (blk_below hA.out hb)
  replace hB := hid (blk_below hB.out hb)
  replace HCQ := hid (Kd.C_below HCQ.out hb)
  replace hC := hid (blk_below hC.out hb)
  clear hb hB51
  have cA0 := blk_cell hA.out 0
  have cA1 := blk_cell hA.out 1
  have cA2 := blk_cell hA.out 2
  have zA := blk_lt hA.out
  have cB0 := blk_cell hB.out 0
  have cB1 := blk_cell hB.out 1
  have cB2 := blk_cell hB.out 2
  have zB := blk_lt hB.out
  have cC0 := blk_cell hC.out 0
  have cC1 := blk_cell hC.out 1
  have cC2 := blk_cell hC.out 2
  have zC := blk_lt hC.out
  go_wp2_with fail
  clear cA0 cA1 cA2 zA cB0 cB1 cB2 zB cC0 cC1 cC2 zC
  refine (words_any (7) ⟨#[]⟩ w52 (HS.out.below h0 hB52)).mono ?_
  intro e w53 hh
  obtain ⟨he, hb⟩ := hh
  obtain rfl : e = .returned (.int .i64 0) := he
  have hB53 := below_step hB52 hb
  replace HCP := hid (Kd.C_below HCP.out hb)
  replace hA := hid (blk_below hA.out hb)
  replace hB := hid (blk_below hB.out hb)
  replace HCQ := hid (Kd.C_below HCQ.out hb)
  replace hC := hid (blk_below hC.out hb)
  clear hb hB52
  have cA0 := blk_cell hA.out 0
  have cA1 := blk_cell hA.out 1
  have cA2 := blk_cell hA.out 2
  have zA := blk_lt hA.out
  have cB0 := blk_cell hB.out 0
  have cB1 := blk_cell hB.out 1
  have cB2 := blk_cell hB.out 2
  have zB := blk_lt hB.out
  have cC0 := blk_cell hC.out 0
  have cC1 := blk_cell hC.out 1
  have cC2 := blk_cell hC.out 2
  have zC := blk_lt hC.out
  go_wp2_with fail
  clear cA0 cA1 cA2 zA cB0 cB1 cB2 zB cC0 cC1 cC2 zC
  refine (words_any (-1) ⟨#[]⟩ w53 (HS.out.below h0 hB53)).mono ?_
  intro e w54 hh
  obtain ⟨he, hb⟩ := hh
  obtain rfl : e = .returned (.int .i64 0) := he
  have hB54 := below_step hB53 hb
  replace HCP := hid (Kd.C_below HCP.out hb)
  replace hA := hid (blk_below hA.out hb)
  replace hB := hid (blk_below hB.out hb)
  replace HCQ := hid (Kd.C_below HCQ.out hb)
  replace hC := hid (blk_below hC.out hb)
  clear hb hB53
  have cA0 := blk_cell hA.out 0
  have cA1 := blk_cell hA.out 1
  have cA2 := blk_cell hA.out 2
  have zA := blk_lt hA.out
  have cB0 := blk_cell hB.out 0
  have cB1 := blk_cell hB.out 1
  have cB2 := blk_cell hB.out 2
  have zB := blk_lt hB.out
  have cC0 := blk_cell hC.out 0
  have cC1 := blk_cell hC.out 1
  have cC2 := blk_cell hC.out 2
  have zC := blk_lt hC.out
  go_wp2_with fail
  clear cA0 cA1 cA2 zA cB0 cB1 cB2 zB cC0 cC1 cC2 zC
  refine (val_any 0 ⟨#[]⟩ w54 (HS.out.below h0 hB54)).mono ?_
  intro e w55 hh
  obtain ⟨he, hb⟩ := hh
  obtain rfl : e = .returned (.int .i64 0) := he
  have hB55 := below_step hB54 hb
  replace HCP := hid (Kd.C_below HCP.out hb)
  replace hA := hid (blk_below hA.out hb)
  replace hB := hid (blk_below hB.out hb)
  replace HCQ := hid (Kd.C_below HCQ.out hb)
  replace hC := hid (blk_below hC.out hb)
  clear hb hB54
  have cA0 := blk_cell hA.out 0
  have cA1 := blk_cell hA.out 1
  have cA2 := blk_cell hA.out 2
  have zA := blk_lt hA.out
  have cB0 := blk_cell hB.out 0
  have cB1 := blk_cell hB.out 1
  have cB2 := blk_cell hB.out 2
  have zB := blk_lt hB.out
  have cC0 := blk_cell hC.out 0
  have cC1 := blk_cell hC.out 1
  have cC2 := blk_cell hC.out 2
  have zC := blk_lt hC.out
  go_wp2_with fail
  clear cA0 cA1 cA2 zA cB0 cB1 cB2 zB cC0 cC1 cC2 zC
  refine (val_any 2 ⟨#[]⟩ w55 (HS.out.below h0 hB55)).mono ?_
  intro e w56 hh
  obtain ⟨he, hb⟩ := hh
  obtain rfl : e = .returned (.int .i64 2) := he
  have hB56 := below_step hB55 hb
  replace HCP := hid (Kd.C_below HCP.out hb)
  replace hA := hid (blk_below hA.out hb)
  replace hB := hid (blk_below hB.out hb)
  replace HCQ := hid (Kd.C_below HCQ.out hb)
  replace hC := hid (blk_below hC.out hb)
  clear hb hB55
  have cA0 := blk_cell hA.out 0
  have cA1 := blk_cell hA.out 1
  have cA2 := blk_cell hA.out 2
  have zA := blk_lt hA.out
  have cB0 := blk_cell hB.out 0
  have cB1 := blk_cell hB.out 1
  have cB2 := blk_cell hB.out 2
  have zB := blk_lt hB.out
  have cC0 := blk_cell hC.out 0
  have cC1 := blk_cell hC.out 1
  have cC2 := blk_cell hC.out 2
  have zC := blk_lt hC.out
  go_wp2_with fail
  clear cA0 cA1 cA2 zA cB0 cB1 cB2 zB cC0 cC1 cC2 zC
  refine (val_any 6 ⟨#[]⟩ w56 (HS.out.below h0 hB56)).mono ?_
  intro e w57 hh
  obtain ⟨he, hb⟩ := hh
  obtain rfl : e = .returned (.int .i64 3) := he
  have hB57 := below_step hB56 hb
  replace HCP := hid (Kd.C_below HCP.out hb)
  replace hA := hid (blk_below hA.out hb)
  replace hB := hid (blk_below hB.out hb)
  replace HCQ := hid (Kd.C_below HCQ.out hb)
  replace hC := hid (blk_below hC.out hb)
  clear hb hB56
  have cA0 := blk_cell hA.out 0
  have cA1 := blk_cell hA.out 1
  have cA2 := blk_cell hA.out 2
  have zA := blk_lt hA.out
  have cB0 := blk_cell hB.out 0
  have cB1 := blk_cell hB.out 1
  have cB2 := blk_cell hB.out 2
  have zB := blk_lt hB.out
  have cC0 := blk_cell hC.out 0
  have cC1 := blk_cell hC.out 1
  have cC2 := blk_cell hC.out 2
  have zC := blk_lt hC.out
  go_wp2_with fail
  clear cA0 cA1 cA2 zA cB0 cB1 cB2 zB cC0 cC1 cC2 zC
  refine (sameProto_any ⟨5, ⟨#[]⟩⟩ ⟨5, ⟨#[]⟩⟩ (some ⟨gP, 0, none⟩) (some ⟨gP, 0, none⟩) p16.args p16.args cP cP w57 HCP.out HCP.out).mono ?_
  intro e w58 hh
  obtain ⟨he, hb⟩ := hh
  obtain rfl : e = .returned (.bool true) := he.trans (by rw [same_pp])
  clear he
  have hB58 := below_step hB57 hb
  replace HCP := hid (Kd.C_below HCP.out hb)
  replace hA := hid (blk_below hA.out hb)
  replace hB := hid (blk_below hB.out hb)
  replace HCQ := hid (Kd.C_below HCQ.out hb)
  replace hC := hid (blk_below hC.out hb)
  clear hb hB57
  have cA0 := blk_cell hA.out 0
  have cA1 := blk_cell hA.out 1
  have cA2 := blk_cell hA.out 2
  have zA := blk_lt hA.out
  have cB0 := blk_cell hB.out 0
  have cB1 := blk_cell hB.out 1
  have cB2 := blk_cell hB.out 2
  have zB := blk_lt hB.out
  have cC0 := blk_cell hC.out 0
  have cC1 := blk_cell hC.out 1
  have cC2 := blk_cell hC.out 2
  have zC := blk_lt hC.out
  go_wp2_with fail
  clear cA0 cA1 cA2 zA cB0 cB1 cB2 zB cC0 cC1 cC2 zC
  refine (sameProto_any ⟨5, ⟨#[]⟩⟩ zTy (some ⟨gP, 0, none⟩) Q p16.args [] cP cQ w58 HCP.out HCQ.out).mono ?_
  intro e w59 hh
  obtain ⟨he, hb⟩ := hh
  obtain rfl : e = .returned (.bool false) := he.trans (by rw [same_pq])
  clear he
  have hB59 := below_step hB58 hb
  replace HCP := hid (Kd.C_below HCP.out hb)
  replace hA := hid (blk_below hA.out hb)
  replace hB := hid (blk_below hB.out hb)
  replace HCQ := hid (Kd.C_below HCQ.out hb)
  replace hC := hid (blk_below hC.out hb)
  clear hb hB58
  have cA0 := blk_cell hA.out 0
  have cA1 := blk_cell hA.out 1
  have cA2 := blk_cell hA.out 2
  have zA := blk_lt hA.out
  have cB0 := blk_cell hB.out 0
  have cB1 := blk_cell hB.out 1
  have cB2 := blk_cell hB.out 2
  have zB := blk_lt hB.out
  have cC0 := blk_cell hC.out 0
  have cC1 := blk_cell hC.out 1
  have cC2 := blk_cell hC.out 2
  have zC := blk_lt hC.out
  go_wp2_with fail
  clear cA0 cA1 cA2 zA cB0 cB1 cB2 zB cC0 cC1 cC2 zC
  refine (works_true w59 (HS.out.below h0 hB59)).mono ?_
  intro e w60 hh
  obtain ⟨he, hb⟩ := hh
  obtain rfl : e = .returned (.bool true) := he
  have hB60 := below_step hB59 hb
  replace HCP := hid (Kd.C_below HCP.out hb)
  replace hA := hid (blk_below hA.out hb)
  replace hB := hid (blk_below hB.out hb)
  replace HCQ := hid (Kd.C_below HCQ.out hb)
  replace hC := hid (blk_below hC.out hb)
  clear hb hB59
  have cA0 := blk_cell hA.out 0
  have cA1 := blk_cell hA.out 1
  have cA2 := blk_cell hA.out 2
  have zA := blk_lt hA.out
  have cB0 := blk_cell hB.out 0
  have cB1 := blk_cell hB.out 1
  have cB2 := blk_cell hB.out 2
  have zB := blk_lt hB.out
  have cC0 := blk_cell hC.out 0
  have cC1 := blk_cell hC.out 1
  have cC2 := blk_cell hC.out 2
  have zC := blk_lt hC.out
  go_wp2
  go_ret
  exact ⟨rfl, hB60⟩
set_option maxRecDepth 100000 in
theorem lifted (os : Os) (started : os.Started) (H : Type) (enc : TypeId × Value → H) :
    ReturnsInHanded {} Tryd.checked os 11 .any (fun w args => (Rows.descrKnownSpec.pre enc Tryd.prog Tryd.f11 [] false w args ∧ laidMetH Tryd.prog [("warpbeam/descr.signs", Rows.laid_warpbeam_descr_signs)] w) ∧ sizedMet enc Tryd.prog Tryd.f11 (OpenSpec.ofChange Rows.descrKnownSpec) false w args)
      (Rows.descrKnownSpec.post enc Tryd.prog Tryd.f11 false true false false) := by
  refine returnsInHanded_of_change_and (C := Tryd.checked) (X := fun w _ => laidMetH Tryd.prog [("warpbeam/descr.signs", Rows.laid_warpbeam_descr_signs)] w) (fun _ _ _ hh h => h.of_heap hh) own started (by kernel_rfl) Tryd.func11
    (ChangeSpec.witness_shaped (enc := enc) (C := Tryd.checked) (os := os) (X := fun w _ => laidMetH Tryd.prog [("warpbeam/descr.signs", Rows.laid_warpbeam_descr_signs)] w) false (World.doorLaid Tryd.prog 400 os) #[] 8 rfl (World.shaped_of_RefB (by kernel_rfl) (by kernel_rfl)) (by kernel_rfl) (by kernel_rfl) (by kernel_rfl) (door_met os _)) ?_
  intro W base args ds gs before hval0 hW hcnd hsz0 hL _
  have hval : ∀ (j : Nat) t v, Tryd.f11.params[j]? = some t → args[j]? = some v → Value.okWide Tryd.prog W .any base t v := hval0
  have hsz : (DataW.weightsEach Tryd.prog (Tryd.f11.params.toList ++ Rows.descrKnownSpec.plain.varTypes Tryd.prog) (ds ++ gs)).all (· ≤ reachBytes) = true := hsz0
  have hW' := hW
  obtain ⟨p, q, hA0, hV, rfl, hfz, hnd⟩ := hW
  have hA : DataW.TrodAll enc Tryd.prog W 0 (fun _ => true) true Tryd.f11.params.toList args.toList ds p := hA0
  rw [Tryd.params11] at hA hval hsz
  obtain ⟨hargs, rfl, rfl⟩ := trodAll_nil hA
  obtain rfl : args = #[] := by cases args; simp_all
  obtain ⟨rfl, rfl⟩ := trodVars_none hV
  have hS := sg_of_laid hL
  clear hA0 hval0 hsz0 hsz
  refine (walk  W hS ).mono fun e W' ⟨he, bel⟩ => ?_
  subst he
  exact ⟨_, rfl, _, _, _, [], _, [], hW', trodAll_mk1 (shut_bool Tryd.underlying4 _), trodAll_mk0, rfl, bel.frame _, fun h => by cases h⟩

theorem over : Rows.DescrKnownSaid :=
  OpenClaim.holds_of_wide 11 Tryd.f11 rfl rfl rfl rfl rfl rfl rfl ⟨rfl, rfl, rfl, rfl, rfl⟩ rfl rfl rfl rfl rfl (by kernel_rfl) Tryd.func11 (by kernel_rfl)
    (of_decide_eq_true (by kernel_rfl)) (by unfold Func.isWrapper; first | (rw [if_pos (by decide +kernel)]; kernel_rfl) | (rw [if_neg (by decide +kernel)]; exact ⟨rfl, rfl⟩))
    (fun os started H enc _ => lifted os started H enc)

end Go.Proofs.YtcaepnbamnicmaaDoor.descrKnown

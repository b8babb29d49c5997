/- The law DescrNames: for every text the statement's function returns true, under the table of signs as the program lays it. -/
import Derived.Test.YtcaepnbamnicmaaDoorRl
import Derived.Test.YtcaepnbamnicmaaDoorDl
import Derived.Test.YtcaepnbamnicmaaDoorPn
import Derived.ShutString
import Derived.ChangeOld
import Derived.SizedLaws
namespace Go.Proofs.YtcaepnbamnicmaaDoor.descrNames
open Go.ChangeShapes Go.WideShapes Go.ChangeAt Go.RowKit
open Go.ChangeMaps (open_string shut_string)
open Go.Proofs.YtcaepnbamnicmaaDoor Go.Proofs.YtcaepnbamnicmaaDoorW.PrintWords

theorem isName_is {s : ByteArray} {b : Bool} (h : isName s = b) (w : World) :
    Calls Tryd.prog 17 #[.string s] w fun e w' => e = .returned (.bool b) ∧ Below w.heap.size w w' := h ▸ isName_any s w
theorem ty3 (s : ByteArray) : tyOk ⟨3, s⟩ = isName s := rfl

set_option maxHeartbeats 1000000 in
theorem walk (s : ByteArray) (w : World) (hS : Sg w) (hs : s.size ≤ 140737488351232) :
    Calls Tryd.prog 5 #[.string s] w fun e w' => e = .returned (.bool true) ∧ Below w.heap.size w w' := by
  have HS := hid hS
  have h0 := hS.lt
  clear hS
  cases hn : isName s with
  | false =>
    have HN := hid hn
    clear hn
    go_enter Tryd.func5, Tryd.ntmps5
    go_wp2_with (first
      | (go_at_call 19; refine (works_true _ (HS.out)).mono ?_; rintro e w1 ⟨rfl, hb1⟩)
      | (go_at_call 17; refine (isName_any s _).mono ?_; rintro e w2 ⟨he, hb2⟩; obtain rfl : e = .returned (.bool false) := he.trans (by rw [HN.out]); (have hB2 := below_step hb1 hb2))
      | (go_at_call 21; refine (checkType_any ⟨3, s⟩ _ (HS.out.below h0 hB2)).mono ?_; rintro e w3 ⟨he, hb3⟩; obtain rfl : e = .returned (.int .i64 2) := he.trans (by rw [ty3, HN.out]; first | done | rfl); (have hB3 := below_step hB2 hb3)))
    go_ret
    exact ⟨rfl, hB3⟩
  | true =>
    have HN := hid hn
    obtain ⟨hz0, hz1⟩ := isName_size hn
    have HC := hid (isName_less hn (s.size - 1))
    have HA0 := isName_more hn 97 rfl
    have HD0 := isName_ahead hn 36 rfl rfl
    have HG := hid (isName_digit s 48 rfl)
    have HB := hid (isName_bad s 45 rfl)
    clear hn
    go_enter Tryd.func5, Tryd.ntmps5
    go_wp2_with fail
    refine (works_true _ (HS.out)).mono ?_
    rintro e w1 ⟨rfl, hb1⟩
    go_wp2_with fail
    refine (isName_any s _).mono ?_
    rintro e w2 ⟨he, hb2⟩
    obtain rfl : e = .returned (.bool true) := by rw [← HN.out]; exact he
    have hB2 := below_step hb1 hb2
    clear hb1 hb2 he
    go_wp2_with fail
    refine (checkType_any ⟨3, s⟩ _ (HS.out.below h0 hB2)).mono ?_
    rintro e w3 ⟨he, hb3⟩
    obtain rfl : e = .returned (.int .i64 0) := by rw [he, ty3, HN.out]; rfl
    have hB3 := below_step hB2 hb3
    clear hB2 hb3 he
    by_cases h2 : s.size < 2
    · by_cases h64 : s.size < 64
      · have HA := hid (HA0.trans (decide_eq_true h64))
        have HD := hid (HD0.trans (decide_eq_true h64))
        clear HA0 HD0 HC
        go_wp2_with fail
        refine (isName_is HA.out _).mono ?_
        rintro e v ⟨rfl, hb⟩
        replace hB3 := below_step hB3 hb
        clear hb
        go_wp2_with fail
        refine (isName_is HD.out _).mono ?_
        rintro e v ⟨rfl, hb⟩
        replace hB3 := below_step hB3 hb
        clear hb
        go_wp2_with fail
        refine (isName_is HG.out _).mono ?_
        rintro e v ⟨rfl, hb⟩
        replace hB3 := below_step hB3 hb
        clear hb
        go_wp2_with fail
        refine (isName_is HB.out _).mono ?_
        rintro e v ⟨rfl, hb⟩
        replace hB3 := below_step hB3 hb
        clear hb
        go_wp2
        go_ret
        exact ⟨rfl, hB3⟩
      · omega
    · have HC := hid (HC.out (by omega) (by omega))
      by_cases h64 : s.size < 64
      · have HA := hid (HA0.trans (decide_eq_true h64))
        have HD := hid (HD0.trans (decide_eq_true h64))
        clear HA0 HD0
        go_wp2_with fail
        refine (isName_is HC.out _).mono ?_
        rintro e v ⟨rfl, hb⟩
        replace hB3 := below_step hB3 hb
        clear hb
        go_wp2_with fail
        refine (isName_is HA.out _).mono ?_
        rintro e v ⟨rfl, hb⟩
        replace hB3 := below_step hB3 hb
        clear hb
        go_wp2_with fail
        refine (isName_is HD.out _).mono ?_
        rintro e v ⟨rfl, hb⟩
        replace hB3 := below_step hB3 hb
        clear hb
        go_wp2_with fail
        refine (isName_is HG.out _).mono ?_
        rintro e v ⟨rfl, hb⟩
        replace hB3 := below_step hB3 hb
        clear hb
        go_wp2_with fail
        refine (isName_is HB.out _).mono ?_
        rintro e v ⟨rfl, hb⟩
        replace hB3 := below_step hB3 hb
        clear hb
        go_wp2
        go_ret
        exact ⟨rfl, hB3⟩
      · have HA := hid (HA0.trans (decide_eq_false h64))
        have HD := hid (HD0.trans (decide_eq_false h64))
        clear HA0 HD0
        go_wp2_with fail
        refine (isName_is HC.out _).mono ?_
        rintro e v ⟨rfl, hb⟩
        replace hB3 := below_step hB3 hb
        clear hb
        go_wp2_with fail
        refine (isName_is HA.out _).mono ?_
        rintro e v ⟨rfl, hb⟩
        replace hB3 := below_step hB3 hb
        clear hb
        go_wp2_with fail
        refine (isName_is HD.out _).mono ?_
        rintro e v ⟨rfl, hb⟩
        replace hB3 := below_step hB3 hb
        clear hb
        go_wp2_with fail
        refine (isName_is HG.out _).mono ?_
        rintro e v ⟨rfl, hb⟩
        replace hB3 := below_step hB3 hb
        clear hb
        go_wp2_with fail
        refine (isName_is HB.out _).mono ?_
        rintro e v ⟨rfl, hb⟩
        replace hB3 := below_step hB3 hb
        clear hb
        go_wp2
        go_ret
        exact ⟨by show Ending.returned (.bool (!decide ((s.size : Int) < 64))) = _; rw [decide_eq_false (by omega)]; rfl, hB3⟩

set_option maxRecDepth 100000 in
theorem lifted (os : Os) (started : os.Started) (H : Type) (enc : TypeId × Value → H) :
    ReturnsInHanded {} Tryd.checked os 5 .any (fun w args => (Rows.descrNamesSpec.pre enc Tryd.prog Tryd.f5 [] false w args ∧ laidMetH Tryd.prog [("warpbeam/descr.signs", Rows.laid_warpbeam_descr_signs)] w) ∧ sizedMet enc Tryd.prog Tryd.f5 (OpenSpec.ofChange Rows.descrNamesSpec) false w args)
      (Rows.descrNamesSpec.post enc Tryd.prog Tryd.f5 false true false false) := by
  refine returnsInHanded_of_change_and (C := Tryd.checked) (X := fun w _ => laidMetH Tryd.prog [("warpbeam/descr.signs", Rows.laid_warpbeam_descr_signs)] w) (fun _ _ _ hh h => h.of_heap hh) own started (by kernel_rfl) Tryd.func5
    (ChangeSpec.witness_shaped (enc := enc) (C := Tryd.checked) (os := os) (X := fun w _ => laidMetH Tryd.prog [("warpbeam/descr.signs", Rows.laid_warpbeam_descr_signs)] w) false (World.doorLaid Tryd.prog 400 os) #[.string ByteArray.empty] 8 rfl (World.shaped_of_RefB (by kernel_rfl) (by kernel_rfl)) (by kernel_rfl) (by kernel_rfl) (by kernel_rfl) (door_met os _)) ?_
  intro W base args ds gs before hval0 hW hcnd hsz0 hL _
  have hval : ∀ (j : Nat) t v, Tryd.f5.params[j]? = some t → args[j]? = some v → Value.okWide Tryd.prog W .any base t v := hval0
  have hsz : (DataW.weightsEach Tryd.prog (Tryd.f5.params.toList ++ Rows.descrNamesSpec.plain.varTypes Tryd.prog) (ds ++ gs)).all (· ≤ reachBytes) = true := hsz0
  have hW' := hW
  obtain ⟨p, q, hA0, hV, rfl, hfz, hnd⟩ := hW
  have hA : DataW.TrodAll enc Tryd.prog W 0 (fun _ => true) true Tryd.f5.params.toList args.toList ds p := hA0
  rw [Tryd.params5] at hA hval hsz
  obtain ⟨v0, vs0, d0, ds0, p0, q0, hargs, rfl, rfl, h0, r0⟩ := trodAll_cons hA
  obtain ⟨rfl, rfl, rfl⟩ := trodAll_nil r0
  obtain rfl : args = #[v0] := by cases args; simp_all
  obtain ⟨rfl, rfl⟩ := trodVars_none hV
  obtain ⟨a0, rfl, rfl, rfl, y0⟩ := open_string Tryd.underlying9 (hval 0 9 v0 rfl rfl) h0
  have w0 : a0.size ≤ 140737488351232 := by
    have z := sized_string hsz (j := 0) (t := 9) rfl rfl
    rw [Array.length_toList] at z
    exact z
  have hS := sg_of_laid hL
  clear hA0 hval0 hsz0 hsz
  refine (walk a0 W hS w0).mono fun e W' ⟨he, bel⟩ => ?_
  subst he
  exact ⟨_, rfl, _, _, _, [], _, [], hW', trodAll_mk1 (shut_bool Tryd.underlying4 _), (trodAll_cons_mk (shut_string Tryd.underlying9 y0) trodAll_mk0), rfl, bel.frame _, fun h => by cases h⟩

theorem over : Rows.DescrNamesSaid :=
  OpenClaim.holds_of_wide 5 Tryd.f5 rfl rfl rfl rfl rfl rfl rfl ⟨rfl, rfl, rfl, rfl, rfl⟩ rfl rfl rfl rfl rfl (by kernel_rfl) Tryd.func5 (by kernel_rfl)
    (of_decide_eq_true (by kernel_rfl)) (by unfold Func.isWrapper; first | (rw [if_pos (by decide +kernel)]; kernel_rfl) | (rw [if_neg (by decide +kernel)]; exact ⟨rfl, rfl⟩))
    (fun os started H enc _ => lifted os started H enc)
end Go.Proofs.YtcaepnbamnicmaaDoor.descrNames

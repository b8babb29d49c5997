/- The law DescrApart: for every list of types the statement's function returns true, under the table of signs as the program lays it. -/
import Derived.Test.YtcaepnbamnicmaaDoorRl
import Derived.Test.YtcaepnbamnicmaaDoorOq
import Derived.Carry
import Derived.ShutString
import Derived.ChangeOld
import Derived.SizedLaws
import Derived.Test.YtcaepnbamnicmaaDoorDm
import Derived.Test.YtcaepnbamnicmaaDoorPt
import Derived.BigQuiet
namespace Go.Proofs.YtcaepnbamnicmaaDoor.descrApart
open Go.ChangeShapes Go.WideShapes Go.ChangeAt Go.RowKit
open Go.ChangeMaps (open_string shut_string)
open Go.Proofs.YtcaepnbamnicmaaDoor Go.Proofs.YtcaepnbamnicmaaDoorW.PrintWords

theorem apart {t u : Ty} (ht : tyOk t = true) (hu : tyOk u = true) : Lib.hasPrefix (tyL t) (tyL u) = tyEq t u := by
  rw [Bool.eq_iff_iff, tyEq_iff, hasPrefix_iff]
  constructor
  · rintro ⟨r, h⟩
    have h1 := kindL_of r hu
    have h2 := kindL_of [] ht
    rw [List.append_nil, h, h1] at h2
    cases h2
    rfl
  · rintro rfl
    exact ⟨[], by simp⟩
theorem at_ok {l : List Ty} {k : Nat} (h : l.all tyOk = true) (hk : k < l.length) : tyOk (l.getD k zTy) = true := by
  rw [List.all_eq_true] at h
  simp only [List.getD, List.getElem?_eq_getElem hk, Option.getD_some]
  exact h _ (List.getElem_mem hk)
theorem take_at {l : List Ty} {k j : Nat} (h : (l.take k).all tyOk = true) (hj : j < k) (hk : k ≤ l.length) : tyOk (l.getD j zTy) = true := by
  have := at_ok h (k := j) (by rw [List.length_take]; omega)
  simp only [List.getD] at this ⊢
  rwa [List.getElem?_take_of_lt hj] at this
theorem at_Ty1 {w : World} {ad : Addr} {n : Nat} {xs : List Ty} (h : Kd.C kTy w (some ad) n xs) (i : Nat) (h1 : i < n) : w.cell? (ad.add (i * 2)) = some (.int .i64 (xs.getD i zTy).k) ∧ w.cell? ⟨(ad.add (i * 2)).block, (ad.add (i * 2)).off + 1, none⟩ = some (.string (xs.getD i zTy).n) := by
  obtain ⟨ad', he, h2, h3⟩ := at_Ty h i h1
  obtain rfl := Option.some.inj he
  exact ⟨h2, h3⟩
def lTy : Ty := ⟨2, ⟨#[]⟩⟩
def soFar (l : List Ty) : List UInt8 := 40 :: l.flatMap tyL
theorem soFar_snoc {l : List Ty} {k : Nat} (h : k < l.length) : soFar (l.take (k + 1)) = soFar (l.take k) ++ tyL (l.getD k zTy) := by
  unfold soFar
  rw [flat_snoc h]
  rfl
theorem tx_add (a b : List UInt8) : tx a ++ tx b = tx (a ++ b) := by
  apply Go.WideShapes.bytes_inj
  simp [tx]
theorem soFar_size {l : List Ty} (h : l.all tyOk = true) : (tx (soFar l)).size ≤ 67 * l.length + 1 := by
  have := flat_size h
  rw [tx_size]
  unfold soFar
  simp only [List.length_cons]
  omega
theorem soFar_end (l : List Ty) : tx (soFar l) ++ ⟨#[41, 74]⟩ = tx (protoText ⟨lTy, l⟩) := by
  rw [show (⟨#[41, 74]⟩ : ByteArray) = tx [41, 74] from rfl, tx_add]
  rfl

set_option maxHeartbeats 2000000 in
theorem walk16 (l : List Ty) (A : Option Addr) (c n : Nat) (w : World) (hS : Sg w) (hn : n ≤ c) (hr0 : Kd.C kTy w A l.length l) (hl : l.length = min n 16) (hn2 : n ≤ 9223372036854775807) :
    Calls Tryd.prog 6 #[.slice A n c] w fun e w' => e = .returned (.bool true) ∧ Below w.heap.size w w' := by
  have HS := hid hS
  have h0 := hS.lt
  have HR := hid hr0
  have hm : min n 16 = l.length := hl.symm
  have hmI : min (n : Int) 16 = l.length := by omega
  have hc : l.length ≤ c := by omega
  have h16 : l.length ≤ 16 := by omega
  clear hS hr0 hl
  go_enter Tryd.func6, Tryd.ntmps6
  go_wp2_with fail
  refine (works_true w HS.out).mono ?_
  intro e w1 hh
  obtain ⟨he, hb⟩ := hh
  obtain rfl : e = .returned (.bool true) := he
  have hB1 : Below w.heap.size w w1 := hb
  replace HR := hid (Kd.C_below HR.out hb)
  clear hb
  go_wp2_with fail
  go_loopw [3, 4] (fun s i wr => ∃ k : Nat, k ≤ l.length ∧ i = .int .i64 k ∧ s = .string (tx (soFar (l.take k))) ∧ Hid ((l.take k).all tyOk = true) ∧ Below w1.heap.size w1 wr) (fun _ i _ => l.length - (intOf i).toNat)
  case atStart => exact ⟨0, by omega, rfl, rfl, rfl, Below.refl _ _⟩
  obtain ⟨k, hk, rfl, rfl, hok, hL⟩ := hrel
  have hB2 := below_step hB1 hL
  have HRr2 := hid (Kd.C_below HR.out hL)
  by_cases hlt : k < l.length
  · have HLT := hid hlt
    obtain ⟨ad, hAd, e0, e1⟩ := at_Ty HRr2.out k hlt
    subst hAd
    have hsz := soFar_size hok.out
    have hsz2 : (l.take k).length ≤ k := List.length_take_le _ _
    have HSN := hid (soFar_snoc hlt)
    have HAS : Hid (tyOk (l.getD k zTy) = true → (l.take (k + 1)).all tyOk = true) := all_take_snoc hlt hok.out
    generalize ht : l.getD k zTy = t at *
    have HTT := hid ht
    clear ht
    have hk1 : ((k : Int) + 1).toNat = k + 1 := by omega
    cases ho : tyOk t
    case false =>
      have HO := hid ho
      clear ho
      go_wp2_with fail
      refine (writeType_no t.k t.n wr (HS.out.below h0 hB2) HO.out).mono ?_
      intro e w3 hh
      obtain ⟨he, hb⟩ := hh
      obtain rfl : e = .returned (.tuple #[.string ⟨#[]⟩, .int .i64 2]) := he
      have hB3 := below_step hB2 hb
      replace HRr2 := hid (Kd.C_below HRr2.out hb)
      replace hL := below_step hL hb
      clear hb hB2
      go_wp2
      go_ret
      exact ⟨rfl, hB3⟩
    case true =>
      have HO := hid ho
      have hts := tyL_size ho
      have htx : (tyText t).size ≤ 67 := hts
      clear ho hts
      go_wp2_with fail
      refine (writeType_yes t.k t.n wr (HS.out.below h0 hB2) HO.out).mono ?_
      intro e w4 hh
      obtain ⟨he, hb⟩ := hh
      obtain rfl : e = .returned (.tuple #[.string (tyText t), .int .i64 0]) := he
      have hB4 := below_step hB2 hb
      replace HRr2 := hid (Kd.C_below HRr2.out hb)
      replace hL := below_step hL hb
      clear hb hB2
      go_wp2_with fail
      go_loopw [7] (fun j wr2 => ∃ i : Nat, i ≤ k ∧ j = .int .i64 i ∧ Below w4.heap.size w4 wr2) (fun j _ => k - (intOf j).toNat)
      case atStart => exact ⟨0, by omega, rfl, Below.refl _ _⟩
      obtain ⟨i, hi, rfl, hL2⟩ := hrel
      have hB5 := below_step hB4 hL2
      have HRr2r5 := hid (Kd.C_below HRr2.out hL2)
      have hLr5 := below_step hL hL2
      by_cases hlt2 : i < k
      · have hi1 : ((i : Int) + 1).toNat = i + 1 := by omega
        obtain ⟨f0, f1⟩ := at_Ty1 HRr2r5.out i (by omega)
        have HUO := hid (take_at hok.out hlt2 hk)
        generalize hu : l.getD i zTy = u at *
        have HU := hid hu
        clear hu e0 e1
        go_wp2_with fail
        refine (writeType_yes u.k u.n wr (HS.out.below h0 hB5) HUO.out).mono ?_
        intro e w6 hh
        obtain ⟨he, hb⟩ := hh
        obtain rfl : e = .returned (.tuple #[.string (tyText u), .int .i64 0]) := he
        have hB6 := below_step hB5 hb
        replace HRr2r5 := hid (Kd.C_below HRr2r5.out hb)
        replace hLr5 := below_step hLr5 hb
        replace hL2 := below_step hL2 hb
        clear hb hB5
        obtain ⟨f0, f1⟩ := at_Ty1 HRr2r5.out i (by omega)
        obtain ⟨e0, e1⟩ := at_Ty1 HRr2r5.out k (by omega)
        rw [HU.out] at f0 f1
        rw [HTT.out] at e0 e1
        have HPRE := hid (apart HO.out HUO.out)
        have HPRE2 : Hid (Lib.hasPrefix (tyText t).data.toList (tyText u).data.toList = Lib.hasPrefix (tyL t) (tyL u)) := rfl
        cases q1 : (t.k == u.k)
        case false =>
          have HP := hid (HPRE.out.trans (show tyEq t u = false by unfold tyEq; rw [q1]; rfl))
          have HC : Hid (∀ W, Calls Tryd.prog 24 #[.string (tyText t), .string (tyText u)] W fun e w' => e = .returned (.bool false) ∧ w' = W) := fun W => by
            have := Tryd.strings_HasPrefix (tyText t) (tyText u) W
            rw [HPRE2.out, HP.out] at this
            exact this
          go_wp2_with fail
          go_quiet ((go_at_call 24; exact Calls.quiet_of_same (HC.out _)))
          go_wp2
          go_roundw
          case rel => exact ⟨i + 1, by omega, by go_num, below_drewN' hL2 nq⟩
          case measure => simp [intOf]; omega
        case true =>
          cases q2 : (t.n.toList == u.n.toList)
          case false =>
            have HP := hid (HPRE.out.trans (show tyEq t u = false by unfold tyEq; rw [q1, q2]; rfl))
            have HC : Hid (∀ W, Calls Tryd.prog 24 #[.string (tyText t), .string (tyText u)] W fun e w' => e = .returned (.bool false) ∧ w' = W) := fun W => by
              have := Tryd.strings_HasPrefix (tyText t) (tyText u) W
              rw [HPRE2.out, HP.out] at this
              exact this
            go_wp2_with fail
            go_quiet ((go_at_call 24; exact Calls.quiet_of_same (HC.out _)))
            go_wp2
            go_roundw
            case rel => exact ⟨i + 1, by omega, by go_num, below_drewN' hL2 nq⟩
            case measure => simp [intOf]; omega
          case true =>
            have HP := hid (HPRE.out.trans (show tyEq t u = true by unfold tyEq; rw [q1, q2]; rfl))
            have HC : Hid (∀ W, Calls Tryd.prog 24 #[.string (tyText t), .string (tyText u)] W fun e w' => e = .returned (.bool true) ∧ w' = W) := fun W => by
              have := Tryd.strings_HasPrefix (tyText t) (tyText u) W
              rw [HPRE2.out, HP.out] at this
              exact this
            go_wp2_with fail
            go_quiet ((go_at_call 24; exact Calls.quiet_of_same (HC.out _)))
            go_wp2
            go_roundw
            case rel => exact ⟨i + 1, by omega, by go_num, below_drewN' hL2 nq⟩
            case measure => simp [intOf]; omega
      · have hik : i = k := by omega
        subst hik
        go_wp2_with fail
        go_roundw
        case rel => exact ⟨i + 1, by omega, by go_num, by rw [HSN.out, ← tx_add]; exact congrArg (fun x => Value.string (tx (soFar (l.take i)) ++ x)) (tx_of (tyText t)).symm, HAS.out HO.out, hLr5⟩
        case measure => simp [intOf]; omega
        skip
  · have : k = l.length := by omega
    subst this
    rw [List.take_length] at *
    have hsz := soFar_size hok.out
    have hpe : protoErr ⟨lTy, l⟩ = 0 := protoErr_ok.2 ⟨h16, rfl, hok.out⟩
    have HPL := hid (protoL_of hpe)
    have hpl : (protoText ⟨lTy, l⟩).length ≤ 9223372036854775807 := by
      have h1 := flat_size hok.out
      have h2 : (retL lTy).length = 1 := rfl
      unfold protoText
      simp only [List.length_cons, List.length_append]
      omega
    have HEND := hid (soFar_end l)
    clear hpe
    go_wp2_with fail
    rw [HEND.out]
    refine (proto_any (protoText ⟨lTy, l⟩) wr (HS.out.below h0 hB2) hpl).mono ?_
    intro e w7 hh
    obtain ⟨he, hb⟩ := hh
    have hB7 := below_step hB2 hb
    replace HRr2 := hid (Kd.C_below HRr2.out hb)
    replace hL := below_step hL hb
    clear hb hB2
    obtain ⟨Q, d, he, hd, hC⟩ := ProtoAns.ok HPL.out he
    have HC := hid hC
    clear hC
    obtain rfl : e = .returned (.tuple #[.agg #[.int .i64 2, .string ⟨#[]⟩, .slice Q l.length d], .int .i64 0]) := he
    go_wp2_with fail
    have hB8 := below_alloc hB7 (.cells #[.int .i64 2, .string ⟨#[]⟩, .slice Q l.length d] 29)
    replace hL := below_alloc hL (.cells #[.int .i64 2, .string ⟨#[]⟩, .slice Q l.length d] 29)
    have hQ2 := blk_new w7 (.cells #[.int .i64 2, .string ⟨#[]⟩, .slice Q l.length d] 29)
    replace HRr2 := Kd.C_alloc HRr2.out (.cells #[.int .i64 2, .string ⟨#[]⟩, .slice Q l.length d] 29)
    replace HC := Kd.C_alloc HC.out (.cells #[.int .i64 2, .string ⟨#[]⟩, .slice Q l.length d] 29)
    have hs8 := size_alloc w7 (.cells #[.int .i64 2, .string ⟨#[]⟩, .slice Q l.length d] 29)
    generalize hq8 : w7.heap.size = pQ2 at *
    generalize w7.alloc (.cells #[.int .i64 2, .string ⟨#[]⟩, .slice Q l.length d] 29) = W8 at *
    go_loopw [12] (fun j wr => ∃ i : Nat, i ≤ l.length ∧ j = .int .i64 i ∧ Below W8.heap.size W8 wr) (fun j _ => l.length - (intOf j).toNat)
    case atStart => exact ⟨0, by omega, rfl, Below.refl _ _⟩
    obtain ⟨i, hi, rfl, hL3⟩ := hrel
    have hB9 := below_step hB8 hL3
    have HRr2r9 := hid (Kd.C_below HRr2 hL3)
    have HCr9 := hid (Kd.C_below HC hL3)
    have hQ2r9 := hid (blk_below hQ2 hL3)
    have hLr9 := below_step hL hL3
    have cQ20 := blk_cell hQ2r9.out 0
    have cQ21 := blk_cell hQ2r9.out 1
    have cQ22 := blk_cell hQ2r9.out 2
    have zQ2 := blk_lt hQ2r9.out
    by_cases hlt3 : i < l.length
    · have hi1 : ((i : Int) + 1).toNat = i + 1 := by omega
      obtain ⟨ad, hAd, e0, e1⟩ := at_Ty HRr2r9.out i hlt3
      obtain ⟨bd, hBd, f0, f1⟩ := at_Ty HCr9.out i hlt3
      subst hAd
      subst hBd
      generalize l.getD i zTy = t at *
      have hs := strEq t.n
      go_wp2_with fail
      go_quiet (fail)
      go_wp2
      go_roundw
      case rel => exact ⟨i + 1, by omega, by go_num, below_drewN' hL3 nq⟩
      case measure => simp [intOf]; omega
    · go_wp2
      go_ret
      exact ⟨rfl, hB9⟩

theorem walk (A : Option Addr) (l : List Ty) (c : Nat) (w : World) (hS : Sg w) (hc : l.length ≤ c) (hr : Kd.C kTy w A l.length l) (_ : gTys l) :
    Calls Tryd.prog 6 #[.slice A l.length c] w fun e w' => e = .returned (.bool true) ∧ Below w.heap.size w w' := by
  refine walk16 (l.take (min l.length 16)) A c l.length w hS hc ?_ (by rw [List.length_take]; omega) hr.2.1
  exact Kd.C_take hr (by omega)
set_option maxRecDepth 100000 in
theorem lifted (os : Os) (started : os.Started) (H : Type) (enc : TypeId × Value → H) :
    ReturnsInHanded {} Tryd.checked os 6 .any (fun w args => (Rows.descrApartSpec.pre enc Tryd.prog Tryd.f6 [] false w args ∧ laidMetH Tryd.prog [("warpbeam/descr.signs", Rows.laid_warpbeam_descr_signs)] w) ∧ sizedMet enc Tryd.prog Tryd.f6 (OpenSpec.ofChange Rows.descrApartSpec) false w args)
      (Rows.descrApartSpec.post enc Tryd.prog Tryd.f6 false true false false) := by
  refine returnsInHanded_of_change_and (C := Tryd.checked) (X := fun w _ => laidMetH Tryd.prog [("warpbeam/descr.signs", Rows.laid_warpbeam_descr_signs)] w) (fun _ _ _ hh h => h.of_heap hh) own started (by kernel_rfl) Tryd.func6
    (ChangeSpec.witness_shaped (enc := enc) (C := Tryd.checked) (os := os) (X := fun w _ => laidMetH Tryd.prog [("warpbeam/descr.signs", Rows.laid_warpbeam_descr_signs)] w) false (World.doorLaid Tryd.prog 400 os) #[.slice none 0 0] 8 rfl (World.shaped_of_RefB (by kernel_rfl) (by kernel_rfl)) (by kernel_rfl) (by kernel_rfl) (by kernel_rfl) (door_met os _)) ?_
  intro W base args ds gs before hval0 hW hcnd hsz0 hL _
  have hval : ∀ (j : Nat) t v, Tryd.f6.params[j]? = some t → args[j]? = some v → Value.okWide Tryd.prog W .any base t v := hval0
  have hsz : (DataW.weightsEach Tryd.prog (Tryd.f6.params.toList ++ Rows.descrApartSpec.plain.varTypes Tryd.prog) (ds ++ gs)).all (· ≤ reachBytes) = true := hsz0
  have hW' := hW
  obtain ⟨p, q, hA0, hV, rfl, hfz, hnd⟩ := hW
  have hA : DataW.TrodAll enc Tryd.prog W 0 (fun _ => true) true Tryd.f6.params.toList args.toList ds p := hA0
  rw [Tryd.params6] at hA hval hsz
  obtain ⟨v0, vs0, d0, ds0, p0, q0, hargs, rfl, rfl, h0, r0⟩ := trodAll_cons hA
  obtain ⟨rfl, rfl, rfl⟩ := trodAll_nil r0
  obtain rfl : args = #[v0] := by cases args; simp_all
  obtain ⟨rfl, rfl⟩ := trodVars_none hV
  have y0 := h0
  obtain ⟨A0, l0, c0, rfl, k0, C0, g0⟩ := openTys (hval 0 27 v0 rfl rfl) h0 (Op.weights_of hsz (j := 0) rfl rfl)
  have hS := sg_of_laid hL
  clear hA0 hval0 hsz0 hsz
  refine (walk A0 l0 c0 W hS k0 C0 g0).mono fun e W' ⟨he, bel⟩ => ?_
  subst he
  exact ⟨_, rfl, _, _, _, [], _, [], hW', trodAll_mk1 (shut_bool Tryd.underlying4 _), (trodAll_cons_mk (Below.trod laidOut (by kernel_rfl) (of_decide_eq_true (by kernel_rfl)) y0 bel (Op.trod_places y0)) trodAll_mk0), rfl, bel.frame _, fun h => by cases h⟩

theorem over : Rows.DescrApartSaid :=
  OpenClaim.holds_of_wide 6 Tryd.f6 rfl rfl rfl rfl rfl rfl rfl ⟨rfl, rfl, rfl, rfl, rfl⟩ rfl rfl rfl rfl rfl (by kernel_rfl) Tryd.func6 (by kernel_rfl)
    (of_decide_eq_true (by kernel_rfl)) (by unfold Func.isWrapper; first | (rw [if_pos (by decide +kernel)]; kernel_rfl) | (rw [if_neg (by decide +kernel)]; exact ⟨rfl, rfl⟩))
    (fun os started H enc _ => lifted os started H enc)

end Go.Proofs.YtcaepnbamnicmaaDoor.descrApart

/- The document's own answers (ref05): Elem, Over, CheckProto, WriteProto, ArgWords. -/
import Derived.Test.YtcaepnbamnicmaaDoorDx
namespace Go.Proofs.YtcaepnbamnicmaaDoor
open Go.RowKit Go.Proofs.YtcaepnbamnicmaaDoorW.PrintWords

/-- What Elem and Over answer. -/
def elemL (t : Ty) : Ty × Bool := if 4 ≤ t.k ∧ t.k ≤ 6 then (⟨t.k - 3, t.n⟩, true) else (zTy, false)
def overL (t : Ty) : Ty × Bool := if 1 ≤ t.k ∧ t.k ≤ 3 then (⟨t.k + 3, t.n⟩, true) else (zTy, false)
theorem elem_any (t : Ty) (w : World) :
    Calls Tryd.prog 32 #[.agg #[.int .i64 t.k, .string t.n]] w fun e w' => e = .returned (.tuple #[.agg #[.int .i64 (elemL t).1.k, .string (elemL t).1.n], .bool (elemL t).2]) ∧ Below w.heap.size w w' := by
  unfold elemL
  by_cases h : 4 ≤ t.k ∧ t.k ≤ 6
  · rw [if_pos h]; exact elem_yes t.k t.n w h.1 h.2
  · rw [if_neg h]; exact elem_no t.k t.n w (by omega)
theorem over_any (t : Ty) (w : World) :
    Calls Tryd.prog 34 #[.agg #[.int .i64 t.k, .string t.n]] w fun e w' => e = .returned (.tuple #[.agg #[.int .i64 (overL t).1.k, .string (overL t).1.n], .bool (overL t).2]) ∧ Below w.heap.size w w' := by
  unfold overL
  by_cases h : 1 ≤ t.k ∧ t.k ≤ 3
  · rw [if_pos h]; exact over_yes t.k t.n w h.1 h.2
  · rw [if_neg h]; exact over_no t.k t.n w (by omega)

set_option maxHeartbeats 1000000 in
theorem refElem_any (t : Ty) (w : World) :
    Calls Tryd.prog 33 #[.agg #[.int .i64 t.k, .string t.n]] w fun e w' => e = .returned (.tuple #[.agg #[.int .i64 (elemL t).1.k, .string (elemL t).1.n], .bool (elemL t).2]) ∧ Below w.heap.size w w' := by
  obtain ⟨k, n⟩ := t
  by_cases h : 4 ≤ k ∧ k ≤ 6
  · have h3 : k = 4 ∨ k = 5 ∨ k = 6 := by omega
    clear h
    rcases h3 with rfl | rfl | rfl
    · go_enter Tryd.func33, Tryd.ntmps33
      go_wp2
      refine bodyPost_ret (results_ct rfl _ _ (w.heap.size + 1) 23 #[.int .i64 1, .string n] (0, 0) _ rfl (size_alloc w (.cells #[.int .i64 4, .string n] 23) ▸ blk_new (w.alloc (.cells #[.int .i64 4, .string n] 23)) _) Tryd.underlying23 rfl (by kernel_rfl)) rfl ?_
      exact ⟨rfl, below_alloc (below_alloc (Below.refl _ _) _) _⟩
    · go_enter Tryd.func33, Tryd.ntmps33
      go_wp2
      refine bodyPost_ret (results_ct rfl _ _ (w.heap.size + 1) 23 #[.int .i64 2, .string n] (0, 0) _ rfl (size_alloc w (.cells #[.int .i64 5, .string n] 23) ▸ blk_new (w.alloc (.cells #[.int .i64 5, .string n] 23)) _) Tryd.underlying23 rfl (by kernel_rfl)) rfl ?_
      exact ⟨rfl, below_alloc (below_alloc (Below.refl _ _) _) _⟩
    · go_enter Tryd.func33, Tryd.ntmps33
      go_wp2
      refine bodyPost_ret (results_ct rfl _ _ (w.heap.size + 1) 23 #[.int .i64 3, .string n] (0, 0) _ rfl (size_alloc w (.cells #[.int .i64 6, .string n] 23) ▸ blk_new (w.alloc (.cells #[.int .i64 6, .string n] 23)) _) Tryd.underlying23 rfl (by kernel_rfl)) rfl ?_
      exact ⟨rfl, below_alloc (below_alloc (Below.refl _ _) _) _⟩
  · have HE : Hid (elemL ⟨k, n⟩ = (zTy, false)) := if_neg h
    have k4 : (k == 4) = false := by rw [beq_eq_false_iff_ne]; omega
    have k5 : (k == 5) = false := by rw [beq_eq_false_iff_ne]; omega
    have k6 : (k == 6) = false := by rw [beq_eq_false_iff_ne]; omega
    clear h
    go_enter Tryd.func33, Tryd.ntmps33
    go_wp2
    refine bodyPost_ret (results_ct rfl _ _ (w.heap.size + 1) 23 #[.int .i64 0, .string ⟨#[]⟩] (0, 0) _ rfl (size_alloc w (.cells #[.int .i64 k, .string n] 23) ▸ blk_new (w.alloc (.cells #[.int .i64 k, .string n] 23)) _) Tryd.underlying23 rfl (by kernel_rfl)) rfl ?_
    exact ⟨by rw [HE.out]; rfl, below_alloc (below_alloc (Below.refl _ _) _) _⟩

set_option maxHeartbeats 1000000 in
theorem refOver_any (t : Ty) (w : World) :
    Calls Tryd.prog 35 #[.agg #[.int .i64 t.k, .string t.n]] w fun e w' => e = .returned (.tuple #[.agg #[.int .i64 (overL t).1.k, .string (overL t).1.n], .bool (overL t).2]) ∧ Below w.heap.size w w' := by
  obtain ⟨k, n⟩ := t
  by_cases h : 1 ≤ k ∧ k ≤ 3
  · have h3 : k = 1 ∨ k = 2 ∨ k = 3 := by omega
    clear h
    rcases h3 with rfl | rfl | rfl
    · go_enter Tryd.func35, Tryd.ntmps35
      go_wp2
      refine bodyPost_ret (results_ct rfl _ _ (w.heap.size + 1) 23 #[.int .i64 4, .string n] (0, 0) _ rfl (size_alloc w (.cells #[.int .i64 1, .string n] 23) ▸ blk_new (w.alloc (.cells #[.int .i64 1, .string n] 23)) _) Tryd.underlying23 rfl (by kernel_rfl)) rfl ?_
      exact ⟨rfl, below_alloc (below_alloc (Below.refl _ _) _) _⟩
    · go_enter Tryd.func35, Tryd.ntmps35
      go_wp2
      refine bodyPost_ret (results_ct rfl _ _ (w.heap.size + 1) 23 #[.int .i64 5, .string n] (0, 0) _ rfl (size_alloc w (.cells #[.int .i64 2, .string n] 23) ▸ blk_new (w.alloc (.cells #[.int .i64 2, .string n] 23)) _) Tryd.underlying23 rfl (by kernel_rfl)) rfl ?_
      exact ⟨rfl, below_alloc (below_alloc (Below.refl _ _) _) _⟩
    · go_enter Tryd.func35, Tryd.ntmps35
      go_wp2
      refine bodyPost_ret (results_ct rfl _ _ (w.heap.size + 1) 23 #[.int .i64 6, .string n] (0, 0) _ rfl (size_alloc w (.cells #[.int .i64 3, .string n] 23) ▸ blk_new (w.alloc (.cells #[.int .i64 3, .string n] 23)) _) Tryd.underlying23 rfl (by kernel_rfl)) rfl ?_
      exact ⟨rfl, below_alloc (below_alloc (Below.refl _ _) _) _⟩
  · have HE : Hid (overL ⟨k, n⟩ = (zTy, false)) := if_neg h
    have k1 : (k == 1) = false := by rw [beq_eq_false_iff_ne]; omega
    have k2 : (k == 2) = false := by rw [beq_eq_false_iff_ne]; omega
    have k3 : (k == 3) = false := by rw [beq_eq_false_iff_ne]; omega
    clear h
    go_enter Tryd.func35, Tryd.ntmps35
    go_wp2
    refine bodyPost_ret (results_ct rfl _ _ (w.heap.size + 1) 23 #[.int .i64 0, .string ⟨#[]⟩] (0, 0) _ rfl (size_alloc w (.cells #[.int .i64 k, .string n] 23) ▸ blk_new (w.alloc (.cells #[.int .i64 k, .string n] 23)) _) Tryd.underlying23 rfl (by kernel_rfl)) rfl ?_
    exact ⟨by rw [HE.out]; rfl, below_alloc (below_alloc (Below.refl _ _) _) _⟩


set_option maxHeartbeats 1000000 in
theorem refArgWords_any (r : Ty) (A : Option Addr) (args : List Ty) (c : Nat) (w : World) (hr : Kd.C kTy w A args.length args) (hm : args.length ≤ 4611686018427387903) :
    Calls Tryd.prog 28 #[.agg #[.int .i64 r.k, .string r.n, .slice A args.length c]] w fun e w' => e = .returned (.int .i64 (wordsSum args)) ∧ Below w.heap.size w w' := by
  have HR := hid hr
  clear hr
  go_enter Tryd.func28, Tryd.ntmps28
  go_wp2_with fail
  have hB1 := below_alloc (Below.refl w.heap.size w) (.cells #[.int .i64 r.k, .string r.n, .slice A args.length c] 29)
  have hP := blk_new w (.cells #[.int .i64 r.k, .string r.n, .slice A args.length c] 29)
  replace HR := Kd.C_alloc HR.out (.cells #[.int .i64 r.k, .string r.n, .slice A args.length c] 29)
  have hs1 := size_alloc w (.cells #[.int .i64 r.k, .string r.n, .slice A args.length c] 29)
  generalize w.alloc (.cells #[.int .i64 r.k, .string r.n, .slice A args.length c] 29) = W1 at *
  go_loopw [3, 4] (fun s i wr => ∃ k : Nat, k ≤ args.length ∧ i = .int .i64 k ∧ s = .int .i64 (wordsSum (args.take k)) ∧ Below W1.heap.size W1 wr) (fun _ i _ => args.length - (intOf i).toNat)
  case atStart => exact ⟨0, by omega, rfl, rfl, Below.refl _ _⟩
  obtain ⟨k, hk, rfl, rfl, hL⟩ := hrel
  have hB2 := below_step hB1 hL
  have HRr2 := hid (Kd.C_below HR hL)
  have hPr2 := hid (blk_below hP hL)
  have cP0 := blk_cell hPr2.out 0
  have cP1 := blk_cell hPr2.out 1
  have cP2 := blk_cell hPr2.out 2
  have zP := blk_lt hPr2.out
  by_cases hlt : k < args.length
  · have hs1 := wordsSum_range (args.take k)
    have hs2 : (args.take k).length ≤ k := List.length_take_le _ _
    obtain ⟨ad, hAd, e0, e1⟩ := at_Ty HRr2.out k hlt
    subst hAd
    have HSUM := hid (wordsSum_snoc hlt)
    have hw1 := wordsOf_range (args.getD k zTy).k
    have hk1 : ((k : Int) + 1).toNat = k + 1 := by omega
    generalize args.getD k zTy = t at *
    go_wp2_with fail
    clear cP0 cP1 cP2 zP
    refine (refWords_any t.k t.n wr).mono ?_
    intro e w3 hh
    obtain ⟨he, hb⟩ := hh
    obtain rfl : e = .returned (.int .i64 (wordsOf t.k)) := he
    have hB3 := below_step hB2 hb
    replace HRr2 := hid (Kd.C_below HRr2.out hb)
    replace hPr2 := hid (blk_below hPr2.out hb)
    replace hL := below_step hL hb
    clear hb hB2
    have cP0 := blk_cell hPr2.out 0
    have cP1 := blk_cell hPr2.out 1
    have cP2 := blk_cell hPr2.out 2
    have zP := blk_lt hPr2.out
    go_wp2
    go_roundw
    case rel => exact ⟨k + 1, by omega, by go_num, by rw [HSUM.out], hL⟩
    case measure => simp [intOf]; omega
  · have hke : k = args.length := by omega
    subst hke
    go_wp2
    go_ret
    exact ⟨by rw [List.take_length]; rfl, hB2⟩

theorem isEmptyEq (n : ByteArray) : (n.toList == ([] : List UInt8)) = n.toList.isEmpty := by cases n.toList <;> rfl
set_option maxHeartbeats 1000000 in
theorem refCheckProto_any (r : Ty) (A : Option Addr) (args : List Ty) (c : Nat) (w : World) (hr : Kd.C kTy w A args.length args) :
    Calls Tryd.prog 26 #[.agg #[.int .i64 r.k, .string r.n, .slice A args.length c]] w fun e w' => e = .returned (.int .i64 (protoErr ⟨r, args⟩)) ∧ Below w.heap.size w w' := by
  have HR := hid hr
  have hmax := hr.2.1
  clear hr
  by_cases h16 : 16 < args.length
  · have HP : Hid (protoErr ⟨r, args⟩ = 5) := if_pos h16
    go_enter Tryd.func26, Tryd.ntmps26
    go_wp2
    go_ret
    exact ⟨by rw [HP.out]; rfl, below_alloc (Below.refl _ _) _⟩
  · have HP0 : protoErr ⟨r, args⟩ = if (r.isZero || tyOk r) && args.all tyOk then 0 else 2 := if_neg h16
    have h16' : args.length ≤ 16 := by omega
    have HZ : r.isZero = (decide (r.k = 0) && decide (r.n.size = 0)) := rfl
    clear h16
    have HPQ : (r.isZero || tyOk r) = true → protoErr ⟨r, args⟩ = restErr (args.all tyOk) := fun h => by
      rw [HP0, h, Bool.true_and]; rfl
    cases hz : r.isZero with
    | true =>
      have HP := hid (HPQ (by rw [hz]; rfl))
      obtain rfl := (isZero_iff r).1 hz
      clear HP0 HPQ HZ hz
      show Calls Tryd.prog 26 #[.agg #[.int .i64 0, .string ⟨#[]⟩, .slice A args.length c]] w _
      go_enter Tryd.func26, Tryd.ntmps26
      go_wp2_with fail
      have hB1 := below_alloc (Below.refl w.heap.size w) (.cells #[.int .i64 0, .string ⟨#[]⟩, .slice A args.length c] 29)
      have hP := blk_new w (.cells #[.int .i64 0, .string ⟨#[]⟩, .slice A args.length c] 29)
      replace HR := Kd.C_alloc HR.out (.cells #[.int .i64 0, .string ⟨#[]⟩, .slice A args.length c] 29)
      have hs1 := size_alloc w (.cells #[.int .i64 0, .string ⟨#[]⟩, .slice A args.length c] 29)
      generalize w.alloc (.cells #[.int .i64 0, .string ⟨#[]⟩, .slice A args.length c] 29) = W1 at *
      go_loopw [3] (fun i wr => ∃ k : Nat, k ≤ args.length ∧ i = .int .i64 k ∧ Hid ((args.take k).all tyOk = true) ∧ Below W1.heap.size W1 wr) (fun i _ => args.length - (intOf i).toNat)
      case atStart => exact ⟨0, by omega, rfl, rfl, Below.refl _ _⟩
      obtain ⟨k, hk, rfl, hok, hL⟩ := hrel
      have hB2 := below_step hB1 hL
      have HRr2 := hid (Kd.C_below HR hL)
      have hPr2 := hid (blk_below hP hL)
      have cP0 := blk_cell hPr2.out 0
      have cP1 := blk_cell hPr2.out 1
      have cP2 := blk_cell hPr2.out 2
      have zP := blk_lt hPr2.out
      by_cases hlt : k < args.length
      · obtain ⟨ad, hAd, e0, e1⟩ := at_Ty HRr2.out k hlt
        subst hAd
        have HAS : Hid (tyOk (args.getD k zTy) = true → (args.take (k + 1)).all tyOk = true) := all_take_snoc hlt hok.out
        have HNA : Hid (tyOk (args.getD k zTy) = false → args.all tyOk = false) := not_all_at hlt
        have hk1 : ((k : Int) + 1).toNat = k + 1 := by omega
        generalize args.getD k zTy = t at *
        cases ho : tyOk t
        case false =>
          have HN := hid (HNA.out ho)
          have HO := hid ho
          clear ho
          go_wp2_with fail
          clear cP0 cP1 cP2 zP
          refine (refCheckType_any t wr).mono ?_
          intro e w3 hh
          obtain ⟨he, hb⟩ := hh
          obtain rfl : e = .returned (.int .i64 2) := he.trans (by rw [HO.out]; rfl)
          clear he
          have hB3 := below_step hB2 hb
          replace HRr2 := hid (Kd.C_below HRr2.out hb)
          replace hPr2 := hid (blk_below hPr2.out hb)
          replace hL := below_step hL hb
          clear hb hB2
          have cP0 := blk_cell hPr2.out 0
          have cP1 := blk_cell hPr2.out 1
          have cP2 := blk_cell hPr2.out 2
          have zP := blk_lt hPr2.out
          go_wp2
          go_ret
          exact ⟨by rw [HP.out, HN.out]; rfl, hB3⟩
        case true =>
          have HT := hid (HAS.out ho)
          have HO := hid ho
          clear ho
          go_wp2_with fail
          clear cP0 cP1 cP2 zP
          refine (refCheckType_any t wr).mono ?_
          intro e w4 hh
          obtain ⟨he, hb⟩ := hh
          obtain rfl : e = .returned (.int .i64 0) := he.trans (by rw [HO.out]; rfl)
          clear he
          have hB4 := below_step hB2 hb
          replace HRr2 := hid (Kd.C_below HRr2.out hb)
          replace hPr2 := hid (blk_below hPr2.out hb)
          replace hL := below_step hL hb
          clear hb hB2
          have cP0 := blk_cell hPr2.out 0
          have cP1 := blk_cell hPr2.out 1
          have cP2 := blk_cell hPr2.out 2
          have zP := blk_lt hPr2.out
          go_wp2
          go_roundw
          case rel => exact ⟨k + 1, by omega, by go_num, HT, hL⟩
          case measure => simp [intOf]; omega
      · have hke : k = args.length := by omega
        have hT := hok.out
        rw [hke, List.take_length] at hT
        go_wp2
        go_ret
        exact ⟨by rw [HP.out, hT]; rfl, hB2⟩
    | false =>
      have hne : (r.k == 0) = false ∨ ((r.k == 0) = true ∧ r.n.toList.isEmpty = false) := by
        by_cases hk : r.k = 0
        · refine .inr ⟨by rw [beq_iff_eq]; exact hk, ?_⟩
          rw [isEmpty_iff]
          rw [HZ, hk] at hz
          simpa using hz
        · exact .inl (by rw [beq_eq_false_iff_ne]; exact hk)
      cases ho : tyOk r with
      | true =>
        have hr := tyOk_range ho
        have k0 : (r.k == 0) = false := by rw [beq_eq_false_iff_ne]; omega
        have HP := hid (HPQ (by rw [ho, Bool.or_true]))
        have HO := hid ho
        clear HP0 HPQ HZ hz ho hne hr
        go_enter Tryd.func26, Tryd.ntmps26
        go_wp2_with fail
        have hB1 := below_alloc (Below.refl w.heap.size w) (.cells #[.int .i64 r.k, .string r.n, .slice A args.length c] 29)
        have hP := blk_new w (.cells #[.int .i64 r.k, .string r.n, .slice A args.length c] 29)
        replace HR := Kd.C_alloc HR.out (.cells #[.int .i64 r.k, .string r.n, .slice A args.length c] 29)
        have hs1 := size_alloc w (.cells #[.int .i64 r.k, .string r.n, .slice A args.length c] 29)
        generalize w.alloc (.cells #[.int .i64 r.k, .string r.n, .slice A args.length c] 29) = W1 at *
        refine (refCheckType_any r W1).mono ?_
        intro e w2 hh
        obtain ⟨he, hb⟩ := hh
        obtain rfl : e = .returned (.int .i64 0) := he.trans (by rw [HO.out]; rfl)
        clear he
        have hB2 := below_step hB1 hb
        replace HR := hid (Kd.C_below HR hb)
        replace hP := hid (blk_below hP hb)
        clear hb hB1
        have cP0 := blk_cell hP.out 0
        have cP1 := blk_cell hP.out 1
        have cP2 := blk_cell hP.out 2
        have zP := blk_lt hP.out
        go_wp2_with fail
        clear cP0 cP1 cP2 zP
        go_loopw [3] (fun i wr => ∃ k : Nat, k ≤ args.length ∧ i = .int .i64 k ∧ Hid ((args.take k).all tyOk = true) ∧ Below w2.heap.size w2 wr) (fun i _ => args.length - (intOf i).toNat)
        case atStart => exact ⟨0, by omega, rfl, rfl, Below.refl _ _⟩
        obtain ⟨k, hk, rfl, hok, hL⟩ := hrel
        have hB3 := below_step hB2 hL
        have HRr3 := hid (Kd.C_below HR.out hL)
        have hPr3 := hid (blk_below hP.out hL)
        have cP0 := blk_cell hPr3.out 0
        have cP1 := blk_cell hPr3.out 1
        have cP2 := blk_cell hPr3.out 2
        have zP := blk_lt hPr3.out
        by_cases hlt : k < args.length
        · obtain ⟨ad, hAd, e0, e1⟩ := at_Ty HRr3.out k hlt
          subst hAd
          have HAS : Hid (tyOk (args.getD k zTy) = true → (args.take (k + 1)).all tyOk = true) := all_take_snoc hlt hok.out
          have HNA : Hid (tyOk (args.getD k zTy) = false → args.all tyOk = false) := not_all_at hlt
          have hk1 : ((k : Int) + 1).toNat = k + 1 := by omega
          generalize args.getD k zTy = t at *
          cases ho : tyOk t
          case false =>
            have HN := hid (HNA.out ho)
            have HO := hid ho
            clear ho
            go_wp2_with fail
            clear cP0 cP1 cP2 zP
            refine (refCheckType_any t wr).mono ?_
            intro e w4 hh
            obtain ⟨he, hb⟩ := hh
            obtain rfl : e = .returned (.int .i64 2) := he.trans (by rw [HO.out]; rfl)
            clear he
            have hB4 := below_step hB3 hb
            replace HRr3 := hid (Kd.C_below HRr3.out hb)
            replace hPr3 := hid (blk_below hPr3.out hb)
            replace hL := below_step hL hb
            clear hb hB3
            have cP0 := blk_cell hPr3.out 0
            have cP1 := blk_cell hPr3.out 1
            have cP2 := blk_cell hPr3.out 2
            have zP := blk_lt hPr3.out
            go_wp2
            go_ret
            exact ⟨by rw [HP.out, HN.out]; rfl, hB4⟩
          case true =>
            have HT := hid (HAS.out ho)
            have HO := hid ho
            clear ho
            go_wp2_with fail
            clear cP0 cP1 cP2 zP
            refine (refCheckType_any t wr).mono ?_
            intro e w5 hh
            obtain ⟨he, hb⟩ := hh
            obtain rfl : e = .returned (.int .i64 0) := he.trans (by rw [HO.out]; rfl)
            clear he
            have hB5 := below_step hB3 hb
            replace HRr3 := hid (Kd.C_below HRr3.out hb)
            replace hPr3 := hid (blk_below hPr3.out hb)
            replace hL := below_step hL hb
            clear hb hB3
            have cP0 := blk_cell hPr3.out 0
            have cP1 := blk_cell hPr3.out 1
            have cP2 := blk_cell hPr3.out 2
            have zP := blk_lt hPr3.out
            go_wp2
            go_roundw
            case rel => exact ⟨k + 1, by omega, by go_num, HT, hL⟩
            case measure => simp [intOf]; omega
        · have hke : k = args.length := by omega
          have hT := hok.out
          rw [hke, List.take_length] at hT
          go_wp2
          go_ret
          exact ⟨by rw [HP.out, hT]; rfl, hB3⟩
      | false =>
        have HP : Hid (protoErr ⟨r, args⟩ = 2) := by
          show protoErr ⟨r, args⟩ = 2
          rw [HP0, hz, ho]; rfl
        have HO := hid ho
        clear HP0 HPQ HZ hz ho
        rcases hne with k0 | ⟨k0, n0⟩
        · skip
          go_enter Tryd.func26, Tryd.ntmps26
          go_wp2_with fail
          have hB1 := below_alloc (Below.refl w.heap.size w) (.cells #[.int .i64 r.k, .string r.n, .slice A args.length c] 29)
          have hP := blk_new w (.cells #[.int .i64 r.k, .string r.n, .slice A args.length c] 29)
          replace HR := Kd.C_alloc HR.out (.cells #[.int .i64 r.k, .string r.n, .slice A args.length c] 29)
          have hs1 := size_alloc w (.cells #[.int .i64 r.k, .string r.n, .slice A args.length c] 29)
          generalize w.alloc (.cells #[.int .i64 r.k, .string r.n, .slice A args.length c] 29) = W1 at *
          refine (refCheckType_any r W1).mono ?_
          intro e w2 hh
          obtain ⟨he, hb⟩ := hh
          obtain rfl : e = .returned (.int .i64 2) := he.trans (by rw [HO.out]; rfl)
          clear he
          have hB2 := below_step hB1 hb
          replace HR := hid (Kd.C_below HR hb)
          replace hP := hid (blk_below hP hb)
          clear hb hB1
          have cP0 := blk_cell hP.out 0
          have cP1 := blk_cell hP.out 1
          have cP2 := blk_cell hP.out 2
          have zP := blk_lt hP.out
          go_wp2
          go_ret
          exact ⟨by rw [HP.out]; rfl, hB2⟩
        · skip
          go_enter Tryd.func26, Tryd.ntmps26
          go_wp2_with fail
          have hB1 := below_alloc (Below.refl w.heap.size w) (.cells #[.int .i64 r.k, .string r.n, .slice A args.length c] 29)
          have hP := blk_new w (.cells #[.int .i64 r.k, .string r.n, .slice A args.length c] 29)
          replace HR := Kd.C_alloc HR.out (.cells #[.int .i64 r.k, .string r.n, .slice A args.length c] 29)
          have hs1 := size_alloc w (.cells #[.int .i64 r.k, .string r.n, .slice A args.length c] 29)
          generalize w.alloc (.cells #[.int .i64 r.k, .string r.n, .slice A args.length c] 29) = W1 at *
          refine (refCheckType_any r W1).mono ?_
          intro e w2 hh
          obtain ⟨he, hb⟩ := hh
          obtain rfl : e = .returned (.int .i64 2) := he.trans (by rw [HO.out]; rfl)
          clear he
          have hB2 := below_step hB1 hb
          replace HR := hid (Kd.C_below HR hb)
          replace hP := hid (blk_below hP hb)
          clear hb hB1
          have cP0 := blk_cell hP.out 0
          have cP1 := blk_cell hP.out 1
          have cP2 := blk_cell hP.out 2
          have zP := blk_lt hP.out
          go_wp2
          go_ret
          exact ⟨by rw [HP.out]; rfl, hB2⟩

set_option maxHeartbeats 1000000 in
theorem refWriteProto_no (r : Ty) (A : Option Addr) (args : List Ty) (c : Nat) (w : World) (hr : Kd.C kTy w A args.length args) (hne : protoErr ⟨r, args⟩ ≠ 0) :
    Calls Tryd.prog 25 #[.agg #[.int .i64 r.k, .string r.n, .slice A args.length c]] w fun e w' => e = .returned (.tuple #[.string ⟨#[]⟩, .int .i64 (protoErr ⟨r, args⟩)]) ∧ Below w.heap.size w w' := by
  have HR := hid hr
  have p1 : (protoErr ⟨r, args⟩ == 0) = false := by simpa using hne
  have p2 : (protoErr ⟨r, args⟩ != 0) = true := by simpa using hne
  have HP : Hid (protoErr ⟨r, args⟩ = protoErr ⟨r, args⟩) := rfl
  generalize hp : protoErr ⟨r, args⟩ = pe at *
  have HPE := hid hp
  clear hr hne hp HP
  go_enter Tryd.func25, Tryd.ntmps25
  go_wp2_with fail
  have hB1 := below_alloc (Below.refl w.heap.size w) (.cells #[.int .i64 r.k, .string r.n, .slice A args.length c] 29)
  have hP := blk_new w (.cells #[.int .i64 r.k, .string r.n, .slice A args.length c] 29)
  replace HR := Kd.C_alloc HR.out (.cells #[.int .i64 r.k, .string r.n, .slice A args.length c] 29)
  have hs1 := size_alloc w (.cells #[.int .i64 r.k, .string r.n, .slice A args.length c] 29)
  generalize w.alloc (.cells #[.int .i64 r.k, .string r.n, .slice A args.length c] 29) = W1 at *
  refine (refCheckProto_any r A args c W1 HR).mono ?_
  intro e w2 hh
  obtain ⟨he, hb⟩ := hh
  obtain rfl : e = .returned (.int .i64 pe) := he.trans (by rw [HPE.out])
  clear he
  have hB2 := below_step hB1 hb
  replace HR := hid (Kd.C_below HR hb)
  replace hP := hid (blk_below hP hb)
  clear hb hB1
  have cP0 := blk_cell hP.out 0
  have cP1 := blk_cell hP.out 1
  have cP2 := blk_cell hP.out 2
  have zP := blk_lt hP.out
  go_wp2
  go_ret2
  exact ⟨rfl, hB2⟩

def upto (l : List Ty) : List UInt8 := 40 :: l.flatMap tyL
theorem upto_snoc {l : List Ty} {k : Nat} (h : k < l.length) : upto (l.take (k + 1)) = upto (l.take k) ++ tyL (l.getD k zTy) := by
  unfold upto
  rw [flat_snoc h]
  rfl
theorem tx_add2 (a b : List UInt8) : tx a ++ tx b = tx (a ++ b) := by
  apply Go.WideShapes.bytes_inj
  simp [tx]
theorem upto_size {l : List Ty} (h : l.all tyOk = true) : (tx (upto l)).size ≤ 67 * l.length + 1 := by
  have := flat_size h
  rw [tx_size]
  unfold upto
  simp only [List.length_cons]
  omega
theorem upto_end (r : Ty) (l : List Ty) : tx (upto l) ++ ⟨#[41]⟩ ++ tx (retL r) = tx (protoText ⟨r, l⟩) := by
  rw [show (⟨#[41]⟩ : ByteArray) = tx [41] from rfl, tx_add2, tx_add2]
  unfold upto protoText
  simp
theorem at_ok {l : List Ty} {k : Nat} (h : l.all tyOk = true) (hk : k < l.length) : tyOk (l.getD k zTy) = true := by
  rw [List.all_eq_true] at h
  simp only [List.getD, List.getElem?_eq_getElem hk, Option.getD_some]
  exact h _ (List.getElem_mem hk)
theorem refText_ret (r : Ty) (w : World) (h : (r.isZero || tyOk r) = true) :
    Calls Tryd.prog 53 #[.agg #[.int .i64 r.k, .string r.n]] w fun e w' => e = .returned (.string (tx (retL r))) ∧ Below w.heap.size w w' := by
  cases hz : r.isZero with
  | true =>
    obtain rfl := (isZero_iff r).1 hz
    exact refText_void w
  | false =>
    rw [hz, Bool.false_or] at h
    have e : tx (retL r) = tyText r := by
      unfold retL
      rw [hz]
      exact tx_of _
    rw [e]
    exact refText_ok r w h
theorem retL_size {r : Ty} (h : (r.isZero || tyOk r) = true) : (tx (retL r)).size ≤ 67 := by
  rw [tx_size]
  unfold retL
  split
  · simp
  · rename_i hz
    rw [Bool.or_eq_true] at h
    exact tyL_size (h.resolve_left hz)

set_option maxHeartbeats 1000000 in
theorem refWriteProto_yes (r : Ty) (A : Option Addr) (args : List Ty) (c : Nat) (w : World) (hr : Kd.C kTy w A args.length args) (h16 : args.length ≤ 16) (hall : args.all tyOk = true) (hret : (r.isZero || tyOk r) = true) :
    Calls Tryd.prog 25 #[.agg #[.int .i64 r.k, .string r.n, .slice A args.length c]] w fun e w' => e = .returned (.tuple #[.string (tx (protoText ⟨r, args⟩)), .int .i64 0]) ∧ Below w.heap.size w w' := by
  have HR := hid hr
  have HALL := hid hall
  have HRET := hid hret
  have HP : Hid (protoErr ⟨r, args⟩ = 0) := by
    show protoErr ⟨r, args⟩ = 0
    unfold protoErr
    rw [if_neg (by show ¬ 16 < args.length; omega), hret, hall]; rfl
  have hrs := retL_size hret
  have HEND := hid (upto_end r args)
  clear hr hall hret
  go_enter Tryd.func25, Tryd.ntmps25
  go_wp2_with fail
  have hB1 := below_alloc (Below.refl w.heap.size w) (.cells #[.int .i64 r.k, .string r.n, .slice A args.length c] 29)
  have hP := blk_new w (.cells #[.int .i64 r.k, .string r.n, .slice A args.length c] 29)
  replace HR := Kd.C_alloc HR.out (.cells #[.int .i64 r.k, .string r.n, .slice A args.length c] 29)
  have hs1 := size_alloc w (.cells #[.int .i64 r.k, .string r.n, .slice A args.length c] 29)
  generalize w.alloc (.cells #[.int .i64 r.k, .string r.n, .slice A args.length c] 29) = W1 at *
  refine (refCheckProto_any r A args c W1 HR).mono ?_
  intro e w2 hh
  obtain ⟨he, hb⟩ := hh
  obtain rfl : e = .returned (.int .i64 0) := he.trans (by rw [HP.out])
  clear he
  have hB2 := below_step hB1 hb
  replace HR := hid (Kd.C_below HR hb)
  replace hP := hid (blk_below hP hb)
  clear hb hB1
  have cP0 := blk_cell hP.out 0
  have cP1 := blk_cell hP.out 1
  have cP2 := blk_cell hP.out 2
  have zP := blk_lt hP.out
  go_wp2_with fail
  clear cP0 cP1 cP2 zP
  go_loopw [5, 6] (fun s i wr => ∃ k : Nat, k ≤ args.length ∧ i = .int .i64 k ∧ s = .string (tx (upto (args.take k))) ∧ Below w2.heap.size w2 wr) (fun _ i _ => args.length - (intOf i).toNat)
  case atStart => exact ⟨0, by omega, rfl, rfl, Below.refl _ _⟩
  obtain ⟨k, hk, rfl, rfl, hL⟩ := hrel
  have hall2 : (args.take k).all tyOk = true := by
    have := HALL.out
    rw [List.all_eq_true] at this ⊢
    exact fun x hx => this x (List.mem_of_mem_take hx)
  have hsz := upto_size hall2
  have hsz2 : (args.take k).length ≤ k := List.length_take_le _ _
  clear hall2
  have hB3 := below_step hB2 hL
  have HRr3 := hid (Kd.C_below HR.out hL)
  have hPr3 := hid (blk_below hP.out hL)
  have cP0 := blk_cell hPr3.out 0
  have cP1 := blk_cell hPr3.out 1
  have cP2 := blk_cell hPr3.out 2
  have zP := blk_lt hPr3.out
  by_cases hlt : k < args.length
  · obtain ⟨ad, hAd, e0, e1⟩ := at_Ty HRr3.out k hlt
    subst hAd
    have hto := at_ok HALL.out hlt
    have HTO := hid hto
    have HSN := hid (upto_snoc hlt)
    have htx : (tyText (args.getD k zTy)).size ≤ 67 := tyL_size hto
    have hk1 : ((k : Int) + 1).toNat = k + 1 := by omega
    clear hto
    generalize args.getD k zTy = t at *
    go_wp2_with fail
    clear cP0 cP1 cP2 zP
    refine (refText_ok t wr HTO.out).mono ?_
    intro e w4 hh
    obtain ⟨he, hb⟩ := hh
    obtain rfl : e = .returned (.string (tyText t)) := he
    have hB4 := below_step hB3 hb
    replace HRr3 := hid (Kd.C_below HRr3.out hb)
    replace hPr3 := hid (blk_below hPr3.out hb)
    replace hL := below_step hL hb
    clear hb hB3
    have cP0 := blk_cell hPr3.out 0
    have cP1 := blk_cell hPr3.out 1
    have cP2 := blk_cell hPr3.out 2
    have zP := blk_lt hPr3.out
    go_wp2
    go_roundw
    case rel => exact ⟨k + 1, by omega, by go_num, by rw [HSN.out, ← tx_add2]; exact congrArg (fun x => Value.string (tx (upto (args.take k)) ++ x)) (tx_of (tyText t)).symm, hL⟩
    case measure => simp [intOf]; omega
  · have hke : k = args.length := by omega
    subst hke
    rw [List.take_length] at *
    go_wp2_with fail
    clear cP0 cP1 cP2 zP
    refine (refText_ret r wr HRET.out).mono ?_
    intro e w5 hh
    obtain ⟨he, hb⟩ := hh
    obtain rfl : e = .returned (.string (tx (retL r))) := he
    have hB5 := below_step hB3 hb
    replace HRr3 := hid (Kd.C_below HRr3.out hb)
    replace hPr3 := hid (blk_below hPr3.out hb)
    replace hL := below_step hL hb
    clear hb hB3
    have cP0 := blk_cell hPr3.out 0
    have cP1 := blk_cell hPr3.out 1
    have cP2 := blk_cell hPr3.out 2
    have zP := blk_lt hPr3.out
    go_wp2
    go_ret2
    exact ⟨by rw [← HEND.out]; rfl, hB5⟩
end Go.Proofs.YtcaepnbamnicmaaDoor

/- The document's own answers (ref05) of types. -/
import Derived.Test.YtcaepnbamnicmaaDoorDr
namespace Go.Proofs.YtcaepnbamnicmaaDoor
open Go.RowKit Go.Proofs.YtcaepnbamnicmaaDoorW.PrintWords

set_option maxHeartbeats 1000000 in
theorem refCheckType_any (t : Ty) (w : World) :
    Calls Tryd.prog 36 #[.agg #[.int .i64 t.k, .string t.n]] w fun e w' => e = .returned (.int .i64 (errOf (tyOk t))) ∧ Below w.heap.size w w' := by
  obtain ⟨k, n⟩ := t
  simp only
  by_cases h3 : k = 3 ∨ k = 6
  · have e : tyOk ⟨k, n⟩ = isName n := by simp [tyOk, h3]
    rw [e]
    cases hn : isName n with
    | false =>
      have HN := hid hn
      clear hn e
      rcases h3 with rfl | rfl
      all_goals
        go_enter Tryd.func36, Tryd.ntmps36
        go_wp2_with fail
        refine (refIsName_any n _).mono ?_
        intro e w1 hh
        obtain ⟨he, hb⟩ := hh
        obtain rfl : e = .returned (.bool false) := he.trans (by rw [HN.out])
        have hB := below_step (below_alloc (Below.refl w.heap.size w) _) hb
        go_wp2
        go_ret
        exact ⟨rfl, hB⟩
    | true =>
      have HN := hid hn
      clear hn e
      rcases h3 with rfl | rfl
      all_goals
        go_enter Tryd.func36, Tryd.ntmps36
        go_wp2_with fail
        refine (refIsName_any n _).mono ?_
        intro e w1 hh
        obtain ⟨he, hb⟩ := hh
        obtain rfl : e = .returned (.bool true) := he.trans (by rw [HN.out])
        have hB := below_step (below_alloc (Below.refl w.heap.size w) _) hb
        go_wp2
        go_ret
        exact ⟨rfl, hB⟩
  · by_cases h4 : k = 1 ∨ k = 2 ∨ k = 4 ∨ k = 5
    · have e : tyOk ⟨k, n⟩ = n.toList.isEmpty := by simp only [tyOk, if_neg h3, decide_eq_true h4, Bool.true_and, isEmpty_iff]
      rw [e]
      clear e h3
      cases hn : n.toList.isEmpty with
      | false =>
        rcases h4 with rfl | rfl | rfl | rfl
        all_goals
          go_enter Tryd.func36, Tryd.ntmps36
          go_wp2
          go_ret
          exact ⟨rfl, below_alloc (Below.refl _ _) _⟩
      | true =>
        rcases h4 with rfl | rfl | rfl | rfl
        all_goals
          go_enter Tryd.func36, Tryd.ntmps36
          go_wp2
          go_ret
          exact ⟨rfl, below_alloc (Below.refl _ _) _⟩
    · have e : tyOk ⟨k, n⟩ = false := by simp [tyOk, h3, h4]
      rw [e]
      have k1 : (k == 1) = false := by rw [beq_eq_false_iff_ne]; omega
      have k2 : (k == 2) = false := by rw [beq_eq_false_iff_ne]; omega
      have k3 : (k == 3) = false := by rw [beq_eq_false_iff_ne]; omega
      have k4 : (k == 4) = false := by rw [beq_eq_false_iff_ne]; omega
      have k5 : (k == 5) = false := by rw [beq_eq_false_iff_ne]; omega
      have k6 : (k == 6) = false := by rw [beq_eq_false_iff_ne]; omega
      clear e h3 h4
      go_enter Tryd.func36, Tryd.ntmps36
      go_wp2
      go_ret
      exact ⟨rfl, below_alloc (Below.refl _ _) _⟩

set_option maxHeartbeats 1000000 in
theorem refText_ok (t : Ty) (w : World) (h : tyOk t = true) :
    Calls Tryd.prog 53 #[.agg #[.int .i64 t.k, .string t.n]] w fun e w' => e = .returned (.string (tyText t)) ∧ Below w.heap.size w w' := by
  obtain ⟨k, n⟩ := t
  have hr := tyOk_range h
  have hz := tyOk_size h
  simp only at hr hz
  have empty : ¬ (k = 3 ∨ k = 6) → n = ⟨#[]⟩ := fun hk => by
    unfold tyOk at h
    simp only [if_neg hk, Bool.and_eq_true, decide_eq_true_eq] at h
    exact nameEmpty h.2
  by_cases h36 : k = 3 ∨ k = 6
  · clear h hr empty
    rcases h36 with rfl | rfl
    all_goals
      go_enter Tryd.func53, Tryd.ntmps53
      go_wp2
      go_ret
      exact ⟨rfl, below_alloc (Below.refl _ _) _⟩
  · have h6 : k = 1 ∨ k = 2 ∨ k = 4 ∨ k = 5 := by omega
    obtain rfl := empty h36
    clear h hr empty h36
    rcases h6 with rfl | rfl | rfl | rfl
    all_goals
      go_enter Tryd.func53, Tryd.ntmps53
      go_wp2
      go_ret
      exact ⟨rfl, below_alloc (Below.refl _ _) _⟩
theorem refText_void (w : World) :
    Calls Tryd.prog 53 #[.agg #[.int .i64 0, .string ⟨#[]⟩]] w fun e w' => e = .returned (.string ⟨#[86]⟩) ∧ Below w.heap.size w w' := by
  go_enter Tryd.func53, Tryd.ntmps53
  go_wp2
  go_ret
  exact ⟨rfl, below_alloc (Below.refl _ _) _⟩

set_option maxHeartbeats 1000000 in
theorem refWriteType_no (t : Ty) (w : World) (h : tyOk t = false) :
    Calls Tryd.prog 31 #[.agg #[.int .i64 t.k, .string t.n]] w fun e w' => e = .returned (.tuple #[.string ⟨#[]⟩, .int .i64 2]) ∧ Below w.heap.size w w' := by
  have HO := hid h
  clear h
  go_enter Tryd.func31, Tryd.ntmps31
  go_wp2_with fail
  have hB1 := below_alloc (Below.refl w.heap.size w) (.cells #[.int .i64 t.k, .string t.n] 23)
  have hT := blk_new w (.cells #[.int .i64 t.k, .string t.n] 23)
  have hs1 := size_alloc w (.cells #[.int .i64 t.k, .string t.n] 23)
  generalize w.alloc (.cells #[.int .i64 t.k, .string t.n] 23) = W1 at *
  refine (refCheckType_any t W1).mono ?_
  intro e w2 hh
  obtain ⟨he, hb⟩ := hh
  obtain rfl : e = .returned (.int .i64 2) := he.trans (by rw [HO.out]; rfl)
  clear he
  have hB2 := below_step hB1 hb
  replace hT := hid (blk_below hT hb)
  clear hb hB1
  have cT0 := blk_cell hT.out 0
  have cT1 := blk_cell hT.out 1
  have zT := blk_lt hT.out
  go_wp2
  go_ret2
  exact ⟨rfl, hB2⟩
set_option maxHeartbeats 1000000 in
theorem refWriteType_yes (t : Ty) (w : World) (h : tyOk t = true) :
    Calls Tryd.prog 31 #[.agg #[.int .i64 t.k, .string t.n]] w fun e w' => e = .returned (.tuple #[.string (tyText t), .int .i64 0]) ∧ Below w.heap.size w w' := by
  have HO := hid h
  clear h
  go_enter Tryd.func31, Tryd.ntmps31
  go_wp2_with fail
  have hB1 := below_alloc (Below.refl w.heap.size w) (.cells #[.int .i64 t.k, .string t.n] 23)
  have hT := blk_new w (.cells #[.int .i64 t.k, .string t.n] 23)
  have hs1 := size_alloc w (.cells #[.int .i64 t.k, .string t.n] 23)
  generalize w.alloc (.cells #[.int .i64 t.k, .string t.n] 23) = W1 at *
  refine (refCheckType_any t W1).mono ?_
  intro e w2 hh
  obtain ⟨he, hb⟩ := hh
  obtain rfl : e = .returned (.int .i64 0) := he.trans (by rw [HO.out]; rfl)
  clear he
  have hB2 := below_step hB1 hb
  replace hT := hid (blk_below hT hb)
  clear hb hB1
  have cT0 := blk_cell hT.out 0
  have cT1 := blk_cell hT.out 1
  have zT := blk_lt hT.out
  go_wp2_with fail
  clear cT0 cT1 zT
  refine (refText_ok t w2 HO.out).mono ?_
  intro e w3 hh
  obtain ⟨he, hb⟩ := hh
  obtain rfl : e = .returned (.string (tyText t)) := he
  have hB3 := below_step hB2 hb
  replace hT := hid (blk_below hT.out hb)
  clear hb hB2
  have cT0 := blk_cell hT.out 0
  have cT1 := blk_cell hT.out 1
  have zT := blk_lt hT.out
  go_wp2
  go_ret2
  exact ⟨rfl, hB3⟩

theorem refWords_any (k : Int) (n : ByteArray) (w : World) :
    Calls Tryd.prog 38 #[.agg #[.int .i64 k, .string n]] w fun e w' => e = .returned (.int .i64 (wordsOf k)) ∧ Below w.heap.size w w' := by
  by_cases h2 : k = 2
  · subst h2
    go_enter Tryd.func38, Tryd.ntmps38
    go_wp2
    go_ret
    exact ⟨rfl, below_alloc (Below.refl _ _) _⟩
  · have k2 : (k == 2) = false := by rw [beq_eq_false_iff_ne]; exact h2
    by_cases h1 : k = 1
    · subst h1
      clear h2 k2
      go_enter Tryd.func38, Tryd.ntmps38
      go_wp2
      go_ret
      exact ⟨rfl, below_alloc (Below.refl _ _) _⟩
    · have k1 : (k == 1) = false := by rw [beq_eq_false_iff_ne]; exact h1
      by_cases h3 : 3 ≤ k ∧ k ≤ 6
      · obtain ⟨a, b⟩ := h3
        have HW : Hid (wordsOf k = 1) := by
          show wordsOf k = 1
          unfold wordsOf
          rw [if_neg h2, if_pos (by omega)]
        clear h1 h2
        go_enter Tryd.func38, Tryd.ntmps38
        go_wp2
        go_ret
        exact ⟨by rw [HW.out]; rfl, below_alloc (Below.refl _ _) _⟩
      · have HW : Hid (wordsOf k = 0) := by
          show wordsOf k = 0
          unfold wordsOf
          rw [if_neg h2, if_neg (by omega)]
        by_cases ha : k < 3
        · clear h1 h2 h3
          go_enter Tryd.func38, Tryd.ntmps38
          go_wp2
          go_ret
          exact ⟨by rw [HW.out]; rfl, below_alloc (Below.refl _ _) _⟩
        · have hb : 6 < k := by omega
          clear h1 h2 h3
          go_enter Tryd.func38, Tryd.ntmps38
          go_wp2
          go_ret
          exact ⟨by rw [HW.out]; rfl, below_alloc (Below.refl _ _) _⟩

theorem refVal_any (k : Int) (n : ByteArray) (w : World) :
    Calls Tryd.prog 40 #[.agg #[.int .i64 k, .string n]] w fun e w' => e = .returned (.int .i64 (valOf k)) ∧ Below w.heap.size w w' := by
  by_cases h1 : k = 1
  · subst h1
    go_enter Tryd.func40, Tryd.ntmps40
    go_wp2
    go_ret
    exact ⟨rfl, below_alloc (Below.refl _ _) _⟩
  · have k1 : (k == 1) = false := by rw [beq_eq_false_iff_ne]; exact h1
    by_cases h2 : k = 2
    · subst h2
      clear h1 k1
      go_enter Tryd.func40, Tryd.ntmps40
      go_wp2
      go_ret
      exact ⟨rfl, below_alloc (Below.refl _ _) _⟩
    · have k2 : (k == 2) = false := by rw [beq_eq_false_iff_ne]; exact h2
      by_cases h3 : 3 ≤ k ∧ k ≤ 6
      · obtain ⟨a, b⟩ := h3
        have HW : Hid (valOf k = 3) := by
          show valOf k = 3
          unfold valOf
          rw [if_neg h1, if_neg h2, if_pos (by omega)]
        clear h1 h2
        go_enter Tryd.func40, Tryd.ntmps40
        go_wp2
        go_ret
        exact ⟨by rw [HW.out]; rfl, below_alloc (Below.refl _ _) _⟩
      · have HW : Hid (valOf k = 0) := by
          show valOf k = 0
          unfold valOf
          rw [if_neg h1, if_neg h2, if_neg (by omega)]
        by_cases ha : k < 3
        · clear h1 h2 h3
          go_enter Tryd.func40, Tryd.ntmps40
          go_wp2
          go_ret
          exact ⟨by rw [HW.out]; rfl, below_alloc (Below.refl _ _) _⟩
        · have hb : 6 < k := by omega
          clear h1 h2 h3
          go_enter Tryd.func40, Tryd.ntmps40
          go_wp2
          go_ret
          exact ⟨by rw [HW.out]; rfl, below_alloc (Below.refl _ _) _⟩
end Go.Proofs.YtcaepnbamnicmaaDoor

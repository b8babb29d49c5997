/- The document's own reader (ref05): take, Type. -/
import Derived.Test.YtcaepnbamnicmaaDoorDu
namespace Go.Proofs.YtcaepnbamnicmaaDoor
open Go.RowKit Go.Proofs.YtcaepnbamnicmaaDoorW.PrintWords

theorem refTake_any (l : List UInt8) (w : World) (hl : l.length ≤ 9223372036854775000) :
    Calls Tryd.prog 44 #[.string (tx l)] w (TakeAns l w) := by
  have L : ∀ (r : List UInt8) (k : Int), (cutAt r = none) ∨ (∃ a b, cutAt r = some (a, b) ∧ (tyOk ⟨k, tx a⟩ = false ∨ tyOk ⟨k, tx a⟩ = true)) := fun r k => by
    cases h : cutAt r with
    | none => exact .inl rfl
    | some x =>
      refine .inr ⟨x.1, x.2, rfl, ?_⟩
      cases tyOk ⟨k, tx x.1⟩ <;> simp
  match l, hl with
  | [], _ => exact take_nil w
  | [c], hl =>
    by_cases h91 : c = 91
    · subst h91; exact take_one w
    by_cases h1 : c = 73
    · subst h1; exact take_0I [] w (by simp)
    by_cases h2 : c = 74
    · subst h2; exact take_0J [] w (by simp)
    by_cases h3 : c = 76
    · subst h3; exact take_0Lnone [] w rfl (by simp)
    exact take_0other c [] w h1 h2 h3 h91 (by simp)
  | c :: d :: r, hl =>
    simp only [List.length_cons] at hl
    by_cases h91 : c = 91
    · subst h91
      by_cases h1 : d = 73
      · subst h1; exact take_1I r w (by omega)
      by_cases h2 : d = 74
      · subst h2; exact take_1J r w (by omega)
      by_cases h3 : d = 76
      · subst h3
        rcases L r 6 with h | ⟨a, b, h, ho | ho⟩
        · exact take_1Lnone r w h (by omega)
        · exact take_1Lbad a b r w h ho (by omega)
        · exact take_1Lok a b r w h ho (by omega)
      exact take_1other d r w h1 h2 h3 (by omega)
    by_cases h1 : c = 73
    · subst h1; exact take_0I (d :: r) w (by simp only [List.length_cons]; omega)
    by_cases h2 : c = 74
    · subst h2; exact take_0J (d :: r) w (by simp only [List.length_cons]; omega)
    by_cases h3 : c = 76
    · subst h3
      rcases L (d :: r) 3 with h | ⟨a, b, h, ho | ho⟩
      · exact take_0Lnone (d :: r) w h (by simp only [List.length_cons]; omega)
      · exact take_0Lbad a b (d :: r) w h ho (by simp only [List.length_cons]; omega)
      · exact take_0Lok a b (d :: r) w h ho (by simp only [List.length_cons]; omega)
    exact take_0other c (d :: r) w h1 h2 h3 h91 (by simp only [List.length_cons]; omega)

theorem TakeAns.no {l : List UInt8} {w : World} {e : Ending} {w' : World} (h : kindL l = none) (k : TakeAns l w e w') : e = .returned (.tuple #[.agg #[.int .i64 0, .string ⟨#[]⟩], .int .i64 0]) ∧ Below w.heap.size w w' := by
  unfold TakeAns takeL at k
  rw [h] at k
  exact k
theorem TakeAns.yes {l b : List UInt8} {t : Ty} {w : World} {e : Ending} {w' : World} (h : kindL l = some (t, b)) (k : TakeAns l w e w') : ∃ m : Nat, m = l.length - b.length ∧ 0 < m ∧ m + b.length = l.length ∧ e = .returned (.tuple #[.agg #[.int .i64 t.k, .string t.n], .int .i64 m]) ∧ Below w.heap.size w w' := by
  unfold TakeAns takeL at k
  rw [h] at k
  have := kindL_lt h
  refine ⟨l.length - b.length, rfl, by omega, by omega, ?_, k.2⟩
  have e : ((l.length - b.length : Nat) : Int) = (l.length : Int) - b.length := by omega
  rw [e]
  exact k.1

set_option maxHeartbeats 1000000 in
theorem refType_any (l : List UInt8) (w : World) (hl : l.length ≤ 9223372036854775000) :
    Calls Tryd.prog 13 #[.string (tx l)] w fun e w' => e = .returned (typeRes l) ∧ Below w.heap.size w w' := by
  have hsz := tx_size l
  cases hk : kindL l with
  | none =>
    have HT : Hid (typeRes l = .tuple #[.agg #[.int .i64 0, .string ⟨#[]⟩], .int .i64 50]) := by show typeRes l = _; simp only [typeRes, typeL, hk]
    have HK := hid hk
    clear hk
    go_enter Tryd.func13, Tryd.ntmps13
    go_wp2_with fail
    have hB1 := below_alloc (Below.refl w.heap.size w) (.cells #[.int .i64 0, .string ⟨#[]⟩] 23)
    have hR := blk_new w (.cells #[.int .i64 0, .string ⟨#[]⟩] 23)
    have hs1 := size_alloc w (.cells #[.int .i64 0, .string ⟨#[]⟩] 23)
    generalize w.alloc (.cells #[.int .i64 0, .string ⟨#[]⟩] 23) = W1 at *
    refine (refTake_any l W1 hl).mono ?_
    intro e w2 hA
    obtain ⟨he, hb⟩ := hA.no HK.out
    subst he
    have hB2 := below_step hB1 hb
    have hRr2 := hid (blk_below hR hb)
    have cR0 := blk_cell hRr2.out 0
    have cR1 := blk_cell hRr2.out 1
    have zR := blk_lt hRr2.out
    have f0 := blk_frozen hRr2.out 0
    have f1 := blk_frozen hRr2.out 1
    go_wp2
    refine bodyPost_ret (results_ct rfl _ _ w.heap.size 23 #[.int .i64 0, .string ⟨#[]⟩] (0, 0) _ rfl (blk_alloc (blk_put (blk_put hRr2.out 0 _ rfl) 1 _ rfl) _) Tryd.underlying23 rfl (by kernel_rfl)) rfl ?_
    exact ⟨by rw [HT.out]; rfl, below_alloc (below_set (below_set hB2 (Nat.le_refl _)) (Nat.le_refl _)) _⟩
  | some x =>
    obtain ⟨t, b⟩ := x
    cases b with
    | nil =>
      have HT : Hid (typeRes l = .tuple #[.agg #[.int .i64 t.k, .string t.n], .int .i64 0]) := by show typeRes l = _; simp only [typeRes, typeL, hk]
      have HK := hid hk
      clear hk
      go_enter Tryd.func13, Tryd.ntmps13
      go_wp2_with fail
      have hB1 := below_alloc (Below.refl w.heap.size w) (.cells #[.int .i64 0, .string ⟨#[]⟩] 23)
      have hR := blk_new w (.cells #[.int .i64 0, .string ⟨#[]⟩] 23)
      have hs1 := size_alloc w (.cells #[.int .i64 0, .string ⟨#[]⟩] 23)
      generalize w.alloc (.cells #[.int .i64 0, .string ⟨#[]⟩] 23) = W1 at *
      refine (refTake_any l W1 hl).mono ?_
      intro e w2 hA
      obtain ⟨m, hm, hm0, hm1, he, hb⟩ := hA.yes HK.out
      subst he
      rw [List.length_nil] at hm hm1
      obtain rfl : m = l.length := by omega
      have q0 : ((l.length : Int) == 0) = false := by rw [beq_eq_false_iff_ne]; omega
      clear hm hm1
      have hB2 := below_step hB1 hb
      have hRr2 := hid (blk_below hR hb)
      have cR0 := blk_cell hRr2.out 0
      have cR1 := blk_cell hRr2.out 1
      have zR := blk_lt hRr2.out
      have f0 := blk_frozen hRr2.out 0
      have f1 := blk_frozen hRr2.out 1
      go_wp2
      refine bodyPost_ret (results_ct rfl _ _ w.heap.size 23 #[.int .i64 t.k, .string t.n] (0, 0) _ rfl (blk_alloc (blk_put (blk_put hRr2.out 0 _ rfl) 1 _ rfl) _) Tryd.underlying23 rfl (by kernel_rfl)) rfl ?_
      exact ⟨by rw [HT.out]; rfl, below_alloc (below_set (below_set hB2 (Nat.le_refl _)) (Nat.le_refl _)) _⟩
    | cons c b =>
      have HT : Hid (typeRes l = .tuple #[.agg #[.int .i64 0, .string ⟨#[]⟩], .int .i64 50]) := by show typeRes l = _; simp only [typeRes, typeL, hk]
      have HK := hid hk
      clear hk
      go_enter Tryd.func13, Tryd.ntmps13
      go_wp2_with fail
      have hB1 := below_alloc (Below.refl w.heap.size w) (.cells #[.int .i64 0, .string ⟨#[]⟩] 23)
      have hR := blk_new w (.cells #[.int .i64 0, .string ⟨#[]⟩] 23)
      have hs1 := size_alloc w (.cells #[.int .i64 0, .string ⟨#[]⟩] 23)
      generalize w.alloc (.cells #[.int .i64 0, .string ⟨#[]⟩] 23) = W1 at *
      refine (refTake_any l W1 hl).mono ?_
      intro e w2 hA
      obtain ⟨m, hm, hm0, hm1, he, hb⟩ := hA.yes HK.out
      subst he
      rw [List.length_cons] at hm1
      have q0 : ((m : Int) == 0) = false := by rw [beq_eq_false_iff_ne]; omega
      have q1 : m < l.length := by omega
      clear hm hm1
      have hB2 := below_step hB1 hb
      have hRr2 := hid (blk_below hR hb)
      have cR0 := blk_cell hRr2.out 0
      have cR1 := blk_cell hRr2.out 1
      have zR := blk_lt hRr2.out
      have f0 := blk_frozen hRr2.out 0
      have f1 := blk_frozen hRr2.out 1
      go_wp2
      refine bodyPost_ret (results_ct rfl _ _ w.heap.size 23 #[.int .i64 0, .string ⟨#[]⟩] (0, 0) _ rfl (blk_alloc (blk_put (blk_put hRr2.out 0 _ rfl) 1 _ rfl) _) Tryd.underlying23 rfl (by kernel_rfl)) rfl ?_
      exact ⟨by rw [HT.out]; rfl, below_alloc (below_set (below_set hB2 (Nat.le_refl _)) (Nat.le_refl _)) _⟩
end Go.Proofs.YtcaepnbamnicmaaDoor

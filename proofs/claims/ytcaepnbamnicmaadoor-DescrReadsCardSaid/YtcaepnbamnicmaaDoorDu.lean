/- The document's own reader (ref05): take. -/
import Derived.Test.YtcaepnbamnicmaaDoorDs
import Derived.Test.YtcaepnbamnicmaaDoorPt
namespace Go.Proofs.YtcaepnbamnicmaaDoor
open Go.RowKit Go.Proofs.YtcaepnbamnicmaaDoorW.PrintWords

/-- What take answers. -/
def takeL (l : List UInt8) : Ty × Int := match kindL l with
  | some (t, b) => (t, (l.length : Int) - b.length)
  | none => (zTy, 0)
def TakeAns (l : List UInt8) (w : World) (e : Ending) (w' : World) : Prop :=
  e = .returned (.tuple #[.agg #[.int .i64 (takeL l).1.k, .string (takeL l).1.n], .int .i64 (takeL l).2]) ∧ Below w.heap.size w w'
theorem take_none {l : List UInt8} {w : World} {e : Ending} {w' : World} (h : kindL l = none) (he : e = .returned (.tuple #[.agg #[.int .i64 0, .string ⟨#[]⟩], .int .i64 0])) (hb : Below w.heap.size w w') : TakeAns l w e w' := by
  unfold TakeAns takeL
  rw [h]
  exact ⟨he, hb⟩
theorem take_some {l b : List UInt8} {t : Ty} {n : Int} {w : World} {e : Ending} {w' : World} (h : kindL l = some (t, b)) (hn : (l.length : Int) - b.length = n) (he : e = .returned (.tuple #[.agg #[.int .i64 t.k, .string t.n], .int .i64 n])) (hb : Below w.heap.size w w') : TakeAns l w e w' := by
  unfold TakeAns takeL
  rw [h]
  simp only [hn]
  exact ⟨he, hb⟩
theorem tx_at (l : List UInt8) (i : Nat) (h : i < (tx l).size) : (tx l)[i]'h = l[i]'(by rw [tx_size] at h; exact h) := by
  rfl
theorem tx_byte {l : List UInt8} {i : Nat} {c : UInt8} (hc : l[i]? = some c) (h : i < (tx l).size) : (((tx l)[i]'h).toNat : Int) = (c.toNat : Int) := by
  rw [tx_at]
  have := List.getElem_of_getElem? hc
  obtain ⟨h1, h2⟩ := this
  rw [h2]
theorem cutAt_no59 {l : List UInt8} (h : cutAt l = none) : 59 ∉ l := by
  induction l with
  | nil => simp
  | cons c l ih =>
    unfold cutAt at h
    split at h
    · cases h
    · rename_i hc
      simp only [Option.map_eq_none_iff] at h
      simp only [List.mem_cons, ih h, or_false]
      exact fun e => hc e.symm
theorem byte_ne {c d : UInt8} (h : c ≠ d) : (((c.toNat : Nat) : Int) == (d.toNat : Int)) = false := by
  rw [beq_eq_false_iff_ne]
  intro e
  exact h (UInt8.toNat_inj.1 (by omega))
theorem kind_other0 {c : UInt8} (r : List UInt8) (h1 : c ≠ 73) (h2 : c ≠ 74) (h3 : c ≠ 76) (h4 : c ≠ 91) : kindL (c :: r) = none := by
  unfold kindL
  simp only [kindFrom, befL]
  rw [pre_no _ _ _ _ h1.symm, pre_no _ _ _ _ h2.symm, pre_no _ _ _ _ h3.symm, pre_no _ _ _ _ h4.symm, pre_no _ _ _ _ h4.symm, pre_no _ _ _ _ h4.symm]
  rfl
theorem pre_no2 (p l : List UInt8) (c d x : UInt8) (h : c ≠ d) : Lib.hasPrefix (x :: d :: l) (x :: c :: p) = false := by
  show ((x == x) && ((c == d) && p.isPrefixOf l)) = false
  simp [h]
theorem kind_other1 {c : UInt8} (r : List UInt8) (h1 : c ≠ 73) (h2 : c ≠ 74) (h3 : c ≠ 76) : kindL (91 :: c :: r) = none := by
  unfold kindL
  simp only [kindFrom, befL]
  rw [pre_no _ _ _ _ (by decide), pre_no _ _ _ _ (by decide), pre_no _ _ _ _ (by decide), pre_no2 _ _ _ _ _ h1.symm, pre_no2 _ _ _ _ _ h2.symm, pre_no2 _ _ _ _ _ h3.symm]
  rfl
theorem kind_L0 (r : List UInt8) : kindL (76 :: r) = (match cutAt r with | none => none | some (a, b) => if tyOk ⟨3, tx a⟩ then some ((⟨3, tx a⟩ : Ty), b) else none) := rfl
theorem kind_L1 (r : List UInt8) : kindL (91 :: 76 :: r) = (match cutAt r with | none => none | some (a, b) => if tyOk ⟨6, tx a⟩ then some ((⟨6, tx a⟩ : Ty), b) else none) := rfl

set_option maxHeartbeats 1000000 in
theorem take_nil (w : World) :
    Calls Tryd.prog 44 #[.string (tx [])] w (TakeAns [] w) := by
  have hsz : (tx []).size = 0 := rfl
  generalize tx [] = s at *
  go_enter Tryd.func44, Tryd.ntmps44
  go_wp2
  refine bodyPost_ret (results_ct rfl _ _ w.heap.size 23 #[.int .i64 0, .string ⟨#[]⟩] (0, 0) _ rfl (blk_new w _) Tryd.underlying23 rfl (by kernel_rfl)) rfl ?_
  exact take_none rfl rfl (below_alloc (Below.refl _ _) _)

set_option maxHeartbeats 1000000 in
theorem take_one (w : World) :
    Calls Tryd.prog 44 #[.string (tx [91])] w (TakeAns [91] w) := by
  have hsz : (tx [91]).size = 1 := rfl
  have hp0 : 0 < (tx [91]).size := by decide
  have b0 : (((tx [91])[0]'hp0).toNat : Int) = 91 := (tx_byte (c := 91) rfl hp0).trans rfl
  generalize tx [91] = s at *
  go_enter Tryd.func44, Tryd.ntmps44
  go_wp2
  refine bodyPost_ret (results_ct rfl _ _ w.heap.size 23 #[.int .i64 0, .string ⟨#[]⟩] (0, 0) _ rfl (blk_new w _) Tryd.underlying23 rfl (by kernel_rfl)) rfl ?_
  exact take_none rfl rfl (below_alloc (Below.refl _ _) _)

set_option maxHeartbeats 1000000 in
theorem take_0I (r : List UInt8) (w : World) (hl : r.length ≤ 9223372036854775000) :
    Calls Tryd.prog 44 #[.string (tx (73 :: r))] w (TakeAns (73 :: r) w) := by
  have hsz : (tx (73 :: r)).size = r.length + 1 := by rw [tx_size]; rfl
  have hp0 : 0 < (tx (73 :: r)).size := by omega
  have b0 : (((tx (73 :: r))[0]'hp0).toNat : Int) = 73 := (tx_byte (c := 73) rfl hp0).trans rfl
  generalize tx (73 :: r) = s at *
  go_enter Tryd.func44, Tryd.ntmps44
  go_wp2_with fail
  have hB1 := below_alloc (Below.refl w.heap.size w) (.cells #[.int .i64 0, .string ⟨#[]⟩] 23)
  have hR := blk_new w (.cells #[.int .i64 0, .string ⟨#[]⟩] 23)
  have hs1 := size_alloc w (.cells #[.int .i64 0, .string ⟨#[]⟩] 23)
  generalize w.alloc (.cells #[.int .i64 0, .string ⟨#[]⟩] 23) = W1 at *
  have hB2 := below_alloc hB1 (.cells #[.int .i64 1, .string ⟨#[]⟩] 23)
  have hT := blk_new W1 (.cells #[.int .i64 1, .string ⟨#[]⟩] 23)
  rw [hs1] at hT
  replace hR := blk_alloc hR (.cells #[.int .i64 1, .string ⟨#[]⟩] 23)
  have hs2 := size_alloc W1 (.cells #[.int .i64 1, .string ⟨#[]⟩] 23)
  generalize W1.alloc (.cells #[.int .i64 1, .string ⟨#[]⟩] 23) = W2 at *
  refine (refCheckType_any ⟨1, ⟨#[]⟩⟩ W2).mono ?_
  intro e w3 hh
  obtain ⟨he, hb⟩ := hh
  obtain rfl : e = .returned (.int .i64 0) := he
  have hB3 := below_step hB2 hb
  replace hR := hid (blk_below hR hb)
  replace hT := hid (blk_below hT hb)
  clear hb hB2
  have cR0 := blk_cell hR.out 0
  have cR1 := blk_cell hR.out 1
  have zR := blk_lt hR.out
  have cT0 := blk_cell hT.out 0
  have cT1 := blk_cell hT.out 1
  have zT := blk_lt hT.out
  have f0 := blk_frozen hR.out 0
  have f1 := blk_frozen hR.out 1
  go_wp2
  refine bodyPost_ret (results_ct rfl _ _ w.heap.size 23 #[.int .i64 1, .string ⟨#[]⟩] (0, 0) _ rfl (blk_put (blk_put hR.out 0 _ rfl) 1 _ rfl) Tryd.underlying23 rfl (by kernel_rfl)) rfl ?_
  exact take_some (t := ⟨1, ⟨#[]⟩⟩) (b := r) rfl (n := 1) (by simp only [List.length_cons]; omega) rfl (below_set (below_set hB3 (Nat.le_refl _)) (Nat.le_refl _))

set_option maxHeartbeats 1000000 in
theorem take_0J (r : List UInt8) (w : World) (hl : r.length ≤ 9223372036854775000) :
    Calls Tryd.prog 44 #[.string (tx (74 :: r))] w (TakeAns (74 :: r) w) := by
  have hsz : (tx (74 :: r)).size = r.length + 1 := by rw [tx_size]; rfl
  have hp0 : 0 < (tx (74 :: r)).size := by omega
  have b0 : (((tx (74 :: r))[0]'hp0).toNat : Int) = 74 := (tx_byte (c := 74) rfl hp0).trans rfl
  generalize tx (74 :: r) = s at *
  go_enter Tryd.func44, Tryd.ntmps44
  go_wp2_with fail
  have hB1 := below_alloc (Below.refl w.heap.size w) (.cells #[.int .i64 0, .string ⟨#[]⟩] 23)
  have hR := blk_new w (.cells #[.int .i64 0, .string ⟨#[]⟩] 23)
  have hs1 := size_alloc w (.cells #[.int .i64 0, .string ⟨#[]⟩] 23)
  generalize w.alloc (.cells #[.int .i64 0, .string ⟨#[]⟩] 23) = W1 at *
  have hB2 := below_alloc hB1 (.cells #[.int .i64 2, .string ⟨#[]⟩] 23)
  have hT := blk_new W1 (.cells #[.int .i64 2, .string ⟨#[]⟩] 23)
  rw [hs1] at hT
  replace hR := blk_alloc hR (.cells #[.int .i64 2, .string ⟨#[]⟩] 23)
  have hs2 := size_alloc W1 (.cells #[.int .i64 2, .string ⟨#[]⟩] 23)
  generalize W1.alloc (.cells #[.int .i64 2, .string ⟨#[]⟩] 23) = W2 at *
  refine (refCheckType_any ⟨2, ⟨#[]⟩⟩ W2).mono ?_
  intro e w3 hh
  obtain ⟨he, hb⟩ := hh
  obtain rfl : e = .returned (.int .i64 0) := he
  have hB3 := below_step hB2 hb
  replace hR := hid (blk_below hR hb)
  replace hT := hid (blk_below hT hb)
  clear hb hB2
  have cR0 := blk_cell hR.out 0
  have cR1 := blk_cell hR.out 1
  have zR := blk_lt hR.out
  have cT0 := blk_cell hT.out 0
  have cT1 := blk_cell hT.out 1
  have zT := blk_lt hT.out
  have f0 := blk_frozen hR.out 0
  have f1 := blk_frozen hR.out 1
  go_wp2
  refine bodyPost_ret (results_ct rfl _ _ w.heap.size 23 #[.int .i64 2, .string ⟨#[]⟩] (0, 0) _ rfl (blk_put (blk_put hR.out 0 _ rfl) 1 _ rfl) Tryd.underlying23 rfl (by kernel_rfl)) rfl ?_
  exact take_some (t := ⟨2, ⟨#[]⟩⟩) (b := r) rfl (n := 1) (by simp only [List.length_cons]; omega) rfl (below_set (below_set hB3 (Nat.le_refl _)) (Nat.le_refl _))

set_option maxHeartbeats 1000000 in
theorem take_0other (c : UInt8) (r : List UInt8) (w : World) (h1 : c ≠ 73) (h2 : c ≠ 74) (h3 : c ≠ 76) (h4 : c ≠ 91) (hl : r.length ≤ 9223372036854775000) :
    Calls Tryd.prog 44 #[.string (tx (c :: r))] w (TakeAns (c :: r) w) := by
  have hsz : (tx (c :: r)).size = r.length + 1 := by rw [tx_size]; rfl
  have hp0 : 0 < (tx (c :: r)).size := by omega
  have b0 : (((tx (c :: r))[0]'hp0).toNat : Int) = c.toNat := (tx_byte (c := c) rfl hp0).trans rfl
  have n1 := byte_ne h1
  have n2 := byte_ne h2
  have n3 := byte_ne h3
  have n4 := byte_ne h4
  have q1 : ((c.toNat : Int) == 73) = false := n1
  have q2 : ((c.toNat : Int) == 74) = false := n2
  have q3 : ((c.toNat : Int) == 76) = false := n3
  have q4 : ((c.toNat : Int) == 91) = false := n4
  have HK := hid (kind_other0 r h1 h2 h3 h4)
  clear n1 n2 n3 h1 h2 h3 n4 h4
  generalize tx (c :: r) = s at *
  go_enter Tryd.func44, Tryd.ntmps44
  go_wp2
  refine bodyPost_ret (results_ct rfl _ _ w.heap.size 23 #[.int .i64 0, .string ⟨#[]⟩] (0, 0) _ rfl (blk_alloc (blk_new w _) _) Tryd.underlying23 rfl (by kernel_rfl)) rfl ?_
  exact take_none HK.out rfl (below_alloc (below_alloc (Below.refl _ _) _) _)

set_option maxHeartbeats 1000000 in
theorem take_0Lnone (r : List UInt8) (w : World) (hc : cutAt r = none) (hl : r.length ≤ 9223372036854775000) :
    Calls Tryd.prog 44 #[.string (tx (76 :: r))] w (TakeAns (76 :: r) w) := by
  have hsz : (tx (76 :: r)).size = r.length + 1 := by rw [tx_size]; rfl
  have hp0 : 0 < (tx (76 :: r)).size := by omega
  have b0 : (((tx (76 :: r))[0]'hp0).toNat : Int) = 76 := (tx_byte (c := 76) rfl hp0).trans rfl
  have HK : Hid (kindL (76 :: r) = none) := by
    show kindL (76 :: r) = none
    rw [kind_L0, hc]
  have HN := hid (cutAt_no59 hc)
  have HB : Hid (∀ i (h : i < r.length) (h' : i + 1 < (tx (76 :: r)).size), ((((tx (76 :: r))[i + 1]'h').toNat : Int) == 59) = false) := fun i h h' => by
    have e : (76 :: r)[i + 1]? = some (r[i]'h) := by
      show (76 :: r)[i + 1]? = _
      simp [h]
    rw [tx_byte e h']
    exact byte_ne (d := 59) (fun e => HN.out (e ▸ List.getElem_mem h))
  clear hc
  have hz9 : ((0 : Int) == (r.length : Int) + 1) = false := by rw [beq_eq_false_iff_ne]; omega
  generalize tx (76 :: r) = s at *
  go_enter Tryd.func44, Tryd.ntmps44
  go_wp2_with fail
  have hB1 := below_alloc (Below.refl w.heap.size w) (.cells #[.int .i64 0, .string ⟨#[]⟩] 23)
  have hR := blk_new w (.cells #[.int .i64 0, .string ⟨#[]⟩] 23)
  have hs1 := size_alloc w (.cells #[.int .i64 0, .string ⟨#[]⟩] 23)
  generalize w.alloc (.cells #[.int .i64 0, .string ⟨#[]⟩] 23) = W1 at *
  have hB2 := below_alloc hB1 (.cells #[.int .i64 3, .string ⟨#[]⟩] 23)
  have hT := blk_new W1 (.cells #[.int .i64 3, .string ⟨#[]⟩] 23)
  rw [hs1] at hT
  replace hR := blk_alloc hR (.cells #[.int .i64 3, .string ⟨#[]⟩] 23)
  have hs2 := size_alloc W1 (.cells #[.int .i64 3, .string ⟨#[]⟩] 23)
  generalize W1.alloc (.cells #[.int .i64 3, .string ⟨#[]⟩] 23) = W2 at *
  go_loopw [7] (fun e wr => ∃ i : Nat, i ≤ r.length ∧ e = .int .i64 (i + 1 : Nat) ∧ wr = W2) (fun e _ => r.length + 1 - (intOf e).toNat)
  case atStart => exact ⟨0, by omega, rfl, rfl⟩
  obtain ⟨i, hi, rfl, hwr⟩ := hrel
  subst hwr
  by_cases hlt : i < r.length
  · have hi' : i + 1 < s.size := by omega
    have hb := HB.out i hlt hi'
    have hi1 : (((i + 1 : Nat) : Int) + 1).toNat = i + 1 + 1 := by omega
    go_wp2
    go_roundw
    case rel => exact ⟨i + 1, by omega, by go_num, trivial⟩
    case measure => simp [intOf]; omega
  · have hii : i = r.length := by omega
    subst hii
    have f0 := blk_frozen hR 0
    have f1 := blk_frozen hR 1
    have c0 := blk_cell hR 0
    have c1 := blk_cell hR 1
    have zR := blk_lt hR
    go_wp2
    refine bodyPost_ret (results_ct rfl _ _ w.heap.size 23 #[.int .i64 0, .string ⟨#[]⟩] (0, 0) _ rfl (blk_put (blk_put hR 0 _ rfl) 1 _ rfl) Tryd.underlying23 rfl (by kernel_rfl)) rfl ?_
    exact take_none HK.out rfl (below_set (below_set hB2 (Nat.le_refl _)) (Nat.le_refl _))

set_option maxHeartbeats 1000000 in
theorem take_0Lok (a b : List UInt8) (r : List UInt8) (w : World) (hc : cutAt r = some (a, b)) (ho : tyOk ⟨3, tx a⟩ = true) (hl : r.length ≤ 9223372036854775000) :
    Calls Tryd.prog 44 #[.string (tx (76 :: r))] w (TakeAns (76 :: r) w) := by
  have hsz : (tx (76 :: r)).size = r.length + 1 := by rw [tx_size]; rfl
  have hp0 : 0 < (tx (76 :: r)).size := by omega
  have b0 : (((tx (76 :: r))[0]'hp0).toNat : Int) = 76 := (tx_byte (c := 76) rfl hp0).trans rfl
  have HK : Hid (kindL (76 :: r) = some (⟨3, tx a⟩, b)) := by
    show kindL (76 :: r) = _
    rw [kind_L0, hc]
    simp only [ho]
    rfl
  have HO := hid ho
  obtain ⟨hr, _, hn59⟩ := cutAt_some hc
  have hra : r.length = a.length + 1 + b.length := by rw [hr]; simp; omega
  have HRA := hid hra
  have hle : a.length + 1 ≤ r.length := by omega
  have HN := hid hn59
  have HB : Hid (∀ i (h : i < a.length) (h' : i + 1 < (tx (76 :: r)).size), ((((tx (76 :: r))[i + 1]'h').toNat : Int) == 59) = false) := fun i h h' => by
    have e : (76 :: r)[i + 1]? = some (a[i]'h) := by
      rw [hr]
      show (76 :: (a ++ 59 :: b))[i + 1]? = _
      simp only [List.getElem?_cons_succ]
      rw [List.getElem?_append_left h, List.getElem?_eq_getElem h]
    rw [tx_byte e h']
    exact byte_ne (d := 59) (fun e => HN.out (e ▸ List.getElem_mem h))
  have hp2 : a.length + 1 < (tx (76 :: r)).size := by omega
  have b2 : (((tx (76 :: r))[a.length + 1]'hp2).toNat : Int) = 59 := by
    have e : (76 :: r)[a.length + 1]? = some 59 := by
      rw [hr]
      show (76 :: (a ++ 59 :: b))[a.length + 1]? = _
      simp
    exact tx_byte e hp2
  have HX : Hid ((tx (76 :: r)).extract 1 (a.length + 1) = tx a) := by
    apply Go.WideShapes.bytes_inj
    rw [Lib.extract_data, tx_toList, tx_toList, hr]
    simp
  clear hc ho hr hn59 hra
  have hz9 : ((0 : Int) == (r.length : Int) + 1) = false := by rw [beq_eq_false_iff_ne]; omega
  generalize tx (76 :: r) = s at *
  go_enter Tryd.func44, Tryd.ntmps44
  go_wp2_with fail
  have hB1 := below_alloc (Below.refl w.heap.size w) (.cells #[.int .i64 0, .string ⟨#[]⟩] 23)
  have hR := blk_new w (.cells #[.int .i64 0, .string ⟨#[]⟩] 23)
  have hs1 := size_alloc w (.cells #[.int .i64 0, .string ⟨#[]⟩] 23)
  generalize w.alloc (.cells #[.int .i64 0, .string ⟨#[]⟩] 23) = W1 at *
  have hB2 := below_alloc hB1 (.cells #[.int .i64 3, .string ⟨#[]⟩] 23)
  have hT := blk_new W1 (.cells #[.int .i64 3, .string ⟨#[]⟩] 23)
  rw [hs1] at hT
  replace hR := blk_alloc hR (.cells #[.int .i64 3, .string ⟨#[]⟩] 23)
  have hs2 := size_alloc W1 (.cells #[.int .i64 3, .string ⟨#[]⟩] 23)
  generalize W1.alloc (.cells #[.int .i64 3, .string ⟨#[]⟩] 23) = W2 at *
  go_loopw [7] (fun e wr => ∃ i : Nat, i ≤ a.length ∧ e = .int .i64 (i + 1 : Nat) ∧ wr = W2) (fun e _ => a.length + 1 - (intOf e).toNat)
  case atStart => exact ⟨0, by omega, rfl, rfl⟩
  obtain ⟨i, hi, rfl, hwr⟩ := hrel
  subst hwr
  by_cases hlt : i < a.length
  · have hi' : i + 1 < s.size := by omega
    have hb := HB.out i hlt hi'
    have hi1 : (((i + 1 : Nat) : Int) + 1).toNat = i + 1 + 1 := by omega
    go_wp2
    go_roundw
    case rel => exact ⟨i + 1, by omega, by go_num, trivial⟩
    case measure => simp [intOf]; omega
  have hii : i = a.length := by omega
  subst hii
  have c0 := blk_cell hT 0
  have c1 := blk_cell hT 1
  have f0 := blk_frozen hT 0
  have f1 := blk_frozen hT 1
  have zT := blk_lt hT
  go_wp2_with fail
  rw [HX.out]
  have hT3 : (wr.setCell ⟨w.heap.size + 1, 1, none⟩ (.string (tx a))).heap[w.heap.size + 1]? = some (.cells #[.int .i64 3, .string (tx a)] 23) := blk_put hT 1 (.string (tx a)) rfl
  have hR3 := blk_far hR (p := ⟨w.heap.size + 1, 1, none⟩) (by show w.heap.size ≠ w.heap.size + 1; omega) (.string (tx a))
  have hB3 : Below w.heap.size w (wr.setCell ⟨w.heap.size + 1, 1, none⟩ (.string (tx a))) := below_set hB2 (by omega)
  clear c0 c1 f0 f1 zT
  generalize (wr.setCell ⟨w.heap.size + 1, 1, none⟩ (.string (tx a))) = W3 at *
  refine (refCheckType_any ⟨3, tx a⟩ W3).mono ?_
  intro e w4 hh
  obtain ⟨he, hb⟩ := hh
  obtain rfl : e = .returned (.int .i64 0) := he.trans (by rw [HO.out]; rfl)
  have hB4 := below_step hB3 hb
  have hT4 := blk_below hT3 hb
  have hR4 := blk_below hR3 hb
  clear he hb
  have c0 := blk_cell hT4 0
  have c1 := blk_cell hT4 1
  have zT := blk_lt hT4
  have d0 := blk_cell hR4 0
  have d1 := blk_cell hR4 1
  have f0 := blk_frozen hR4 0
  have f1 := blk_frozen hR4 1
  have zR := blk_lt hR4
  go_wp2
  refine bodyPost_ret (results_ct rfl _ _ w.heap.size 23 #[.int .i64 3, .string (tx a)] (0, 0) _ rfl (blk_put (blk_put hR4 0 _ rfl) 1 _ rfl) Tryd.underlying23 rfl (by kernel_rfl)) rfl ?_
  exact take_some HK.out (n := a.length + 2) (by have := HRA.out; simp only [List.length_cons]; omega) rfl (below_set (below_set hB4 (Nat.le_refl _)) (Nat.le_refl _))

set_option maxHeartbeats 1000000 in
theorem take_0Lbad (a b : List UInt8) (r : List UInt8) (w : World) (hc : cutAt r = some (a, b)) (ho : tyOk ⟨3, tx a⟩ = false) (hl : r.length ≤ 9223372036854775000) :
    Calls Tryd.prog 44 #[.string (tx (76 :: r))] w (TakeAns (76 :: r) w) := by
  have hsz : (tx (76 :: r)).size = r.length + 1 := by rw [tx_size]; rfl
  have hp0 : 0 < (tx (76 :: r)).size := by omega
  have b0 : (((tx (76 :: r))[0]'hp0).toNat : Int) = 76 := (tx_byte (c := 76) rfl hp0).trans rfl
  have HK : Hid (kindL (76 :: r) = none) := by
    show kindL (76 :: r) = _
    rw [kind_L0, hc]
    simp only [ho]
    rfl
  have HO := hid ho
  obtain ⟨hr, _, hn59⟩ := cutAt_some hc
  have hra : r.length = a.length + 1 + b.length := by rw [hr]; simp; omega
  have HRA := hid hra
  have hle : a.length + 1 ≤ r.length := by omega
  have HN := hid hn59
  have HB : Hid (∀ i (h : i < a.length) (h' : i + 1 < (tx (76 :: r)).size), ((((tx (76 :: r))[i + 1]'h').toNat : Int) == 59) = false) := fun i h h' => by
    have e : (76 :: r)[i + 1]? = some (a[i]'h) := by
      rw [hr]
      show (76 :: (a ++ 59 :: b))[i + 1]? = _
      simp only [List.getElem?_cons_succ]
      rw [List.getElem?_append_left h, List.getElem?_eq_getElem h]
    rw [tx_byte e h']
    exact byte_ne (d := 59) (fun e => HN.out (e ▸ List.getElem_mem h))
  have hp2 : a.length + 1 < (tx (76 :: r)).size := by omega
  have b2 : (((tx (76 :: r))[a.length + 1]'hp2).toNat : Int) = 59 := by
    have e : (76 :: r)[a.length + 1]? = some 59 := by
      rw [hr]
      show (76 :: (a ++ 59 :: b))[a.length + 1]? = _
      simp
    exact tx_byte e hp2
  have HX : Hid ((tx (76 :: r)).extract 1 (a.length + 1) = tx a) := by
    apply Go.WideShapes.bytes_inj
    rw [Lib.extract_data, tx_toList, tx_toList, hr]
    simp
  clear hc ho hr hn59 hra
  have hz9 : ((0 : Int) == (r.length : Int) + 1) = false := by rw [beq_eq_false_iff_ne]; omega
  generalize tx (76 :: r) = s at *
  go_enter Tryd.func44, Tryd.ntmps44
  go_wp2_with fail
  have hB1 := below_alloc (Below.refl w.heap.size w) (.cells #[.int .i64 0, .string ⟨#[]⟩] 23)
  have hR := blk_new w (.cells #[.int .i64 0, .string ⟨#[]⟩] 23)
  have hs1 := size_alloc w (.cells #[.int .i64 0, .string ⟨#[]⟩] 23)
  generalize w.alloc (.cells #[.int .i64 0, .string ⟨#[]⟩] 23) = W1 at *
  have hB2 := below_alloc hB1 (.cells #[.int .i64 3, .string ⟨#[]⟩] 23)
  have hT := blk_new W1 (.cells #[.int .i64 3, .string ⟨#[]⟩] 23)
  rw [hs1] at hT
  replace hR := blk_alloc hR (.cells #[.int .i64 3, .string ⟨#[]⟩] 23)
  have hs2 := size_alloc W1 (.cells #[.int .i64 3, .string ⟨#[]⟩] 23)
  generalize W1.alloc (.cells #[.int .i64 3, .string ⟨#[]⟩] 23) = W2 at *
  go_loopw [7] (fun e wr => ∃ i : Nat, i ≤ a.length ∧ e = .int .i64 (i + 1 : Nat) ∧ wr = W2) (fun e _ => a.length + 1 - (intOf e).toNat)
  case atStart => exact ⟨0, by omega, rfl, rfl⟩
  obtain ⟨i, hi, rfl, hwr⟩ := hrel
  subst hwr
  by_cases hlt : i < a.length
  · have hi' : i + 1 < s.size := by omega
    have hb := HB.out i hlt hi'
    have hi1 : (((i + 1 : Nat) : Int) + 1).toNat = i + 1 + 1 := by omega
    go_wp2
    go_roundw
    case rel => exact ⟨i + 1, by omega, by go_num, trivial⟩
    case measure => simp [intOf]; omega
  have hii : i = a.length := by omega
  subst hii
  have c0 := blk_cell hT 0
  have c1 := blk_cell hT 1
  have f0 := blk_frozen hT 0
  have f1 := blk_frozen hT 1
  have zT := blk_lt hT
  go_wp2_with fail
  rw [HX.out]
  have hT3 : (wr.setCell ⟨w.heap.size + 1, 1, none⟩ (.string (tx a))).heap[w.heap.size + 1]? = some (.cells #[.int .i64 3, .string (tx a)] 23) := blk_put hT 1 (.string (tx a)) rfl
  have hR3 := blk_far hR (p := ⟨w.heap.size + 1, 1, none⟩) (by show w.heap.size ≠ w.heap.size + 1; omega) (.string (tx a))
  have hB3 : Below w.heap.size w (wr.setCell ⟨w.heap.size + 1, 1, none⟩ (.string (tx a))) := below_set hB2 (by omega)
  clear c0 c1 f0 f1 zT
  generalize (wr.setCell ⟨w.heap.size + 1, 1, none⟩ (.string (tx a))) = W3 at *
  refine (refCheckType_any ⟨3, tx a⟩ W3).mono ?_
  intro e w4 hh
  obtain ⟨he, hb⟩ := hh
  obtain rfl : e = .returned (.int .i64 2) := he.trans (by rw [HO.out]; rfl)
  have hB4 := below_step hB3 hb
  have hT4 := blk_below hT3 hb
  have hR4 := blk_below hR3 hb
  clear he hb
  have c0 := blk_cell hT4 0
  have c1 := blk_cell hT4 1
  have zT := blk_lt hT4
  have d0 := blk_cell hR4 0
  have d1 := blk_cell hR4 1
  have f0 := blk_frozen hR4 0
  have f1 := blk_frozen hR4 1
  have zR := blk_lt hR4
  go_wp2
  refine bodyPost_ret (results_ct rfl _ _ w.heap.size 23 #[.int .i64 0, .string ⟨#[]⟩] (0, 0) _ rfl (blk_put (blk_put hR4 0 _ rfl) 1 _ rfl) Tryd.underlying23 rfl (by kernel_rfl)) rfl ?_
  exact take_none HK.out rfl (below_set (below_set hB4 (Nat.le_refl _)) (Nat.le_refl _))

set_option maxHeartbeats 1000000 in
theorem take_1I (r : List UInt8) (w : World) (hl : r.length ≤ 9223372036854775000) :
    Calls Tryd.prog 44 #[.string (tx (91 :: 73 :: r))] w (TakeAns (91 :: 73 :: r) w) := by
  have hsz : (tx (91 :: 73 :: r)).size = r.length + 2 := by rw [tx_size]; rfl
  have hp0 : 0 < (tx (91 :: 73 :: r)).size := by omega
  have hp1 : 1 < (tx (91 :: 73 :: r)).size := by omega
  have b0 : (((tx (91 :: 73 :: r))[0]'hp0).toNat : Int) = 91 := (tx_byte (c := 91) rfl hp0).trans rfl
  have b1 : (((tx (91 :: 73 :: r))[1]'hp1).toNat : Int) = 73 := (tx_byte (c := 73) rfl hp1).trans rfl
  generalize tx (91 :: 73 :: r) = s at *
  go_enter Tryd.func44, Tryd.ntmps44
  go_wp2_with fail
  have hB1 := below_alloc (Below.refl w.heap.size w) (.cells #[.int .i64 0, .string ⟨#[]⟩] 23)
  have hR := blk_new w (.cells #[.int .i64 0, .string ⟨#[]⟩] 23)
  have hs1 := size_alloc w (.cells #[.int .i64 0, .string ⟨#[]⟩] 23)
  generalize w.alloc (.cells #[.int .i64 0, .string ⟨#[]⟩] 23) = W1 at *
  have hB2 := below_alloc hB1 (.cells #[.int .i64 4, .string ⟨#[]⟩] 23)
  have hT := blk_new W1 (.cells #[.int .i64 4, .string ⟨#[]⟩] 23)
  rw [hs1] at hT
  replace hR := blk_alloc hR (.cells #[.int .i64 4, .string ⟨#[]⟩] 23)
  have hs2 := size_alloc W1 (.cells #[.int .i64 4, .string ⟨#[]⟩] 23)
  generalize W1.alloc (.cells #[.int .i64 4, .string ⟨#[]⟩] 23) = W2 at *
  refine (refCheckType_any ⟨4, ⟨#[]⟩⟩ W2).mono ?_
  intro e w3 hh
  obtain ⟨he, hb⟩ := hh
  obtain rfl : e = .returned (.int .i64 0) := he
  have hB3 := below_step hB2 hb
  replace hR := hid (blk_below hR hb)
  replace hT := hid (blk_below hT hb)
  clear hb hB2
  have cR0 := blk_cell hR.out 0
  have cR1 := blk_cell hR.out 1
  have zR := blk_lt hR.out
  have cT0 := blk_cell hT.out 0
  have cT1 := blk_cell hT.out 1
  have zT := blk_lt hT.out
  have f0 := blk_frozen hR.out 0
  have f1 := blk_frozen hR.out 1
  go_wp2
  refine bodyPost_ret (results_ct rfl _ _ w.heap.size 23 #[.int .i64 4, .string ⟨#[]⟩] (0, 0) _ rfl (blk_put (blk_put hR.out 0 _ rfl) 1 _ rfl) Tryd.underlying23 rfl (by kernel_rfl)) rfl ?_
  exact take_some (t := ⟨4, ⟨#[]⟩⟩) (b := r) rfl (n := 2) (by simp only [List.length_cons]; omega) rfl (below_set (below_set hB3 (Nat.le_refl _)) (Nat.le_refl _))

set_option maxHeartbeats 1000000 in
theorem take_1J (r : List UInt8) (w : World) (hl : r.length ≤ 9223372036854775000) :
    Calls Tryd.prog 44 #[.string (tx (91 :: 74 :: r))] w (TakeAns (91 :: 74 :: r) w) := by
  have hsz : (tx (91 :: 74 :: r)).size = r.length + 2 := by rw [tx_size]; rfl
  have hp0 : 0 < (tx (91 :: 74 :: r)).size := by omega
  have hp1 : 1 < (tx (91 :: 74 :: r)).size := by omega
  have b0 : (((tx (91 :: 74 :: r))[0]'hp0).toNat : Int) = 91 := (tx_byte (c := 91) rfl hp0).trans rfl
  have b1 : (((tx (91 :: 74 :: r))[1]'hp1).toNat : Int) = 74 := (tx_byte (c := 74) rfl hp1).trans rfl
  generalize tx (91 :: 74 :: r) = s at *
  go_enter Tryd.func44, Tryd.ntmps44
  go_wp2_with fail
  have hB1 := below_alloc (Below.refl w.heap.size w) (.cells #[.int .i64 0, .string ⟨#[]⟩] 23)
  have hR := blk_new w (.cells #[.int .i64 0, .string ⟨#[]⟩] 23)
  have hs1 := size_alloc w (.cells #[.int .i64 0, .string ⟨#[]⟩] 23)
  generalize w.alloc (.cells #[.int .i64 0, .string ⟨#[]⟩] 23) = W1 at *
  have hB2 := below_alloc hB1 (.cells #[.int .i64 5, .string ⟨#[]⟩] 23)
  have hT := blk_new W1 (.cells #[.int .i64 5, .string ⟨#[]⟩] 23)
  rw [hs1] at hT
  replace hR := blk_alloc hR (.cells #[.int .i64 5, .string ⟨#[]⟩] 23)
  have hs2 := size_alloc W1 (.cells #[.int .i64 5, .string ⟨#[]⟩] 23)
  generalize W1.alloc (.cells #[.int .i64 5, .string ⟨#[]⟩] 23) = W2 at *
  refine (refCheckType_any ⟨5, ⟨#[]⟩⟩ W2).mono ?_
  intro e w3 hh
  obtain ⟨he, hb⟩ := hh
  obtain rfl : e = .returned (.int .i64 0) := he
  have hB3 := below_step hB2 hb
  replace hR := hid (blk_below hR hb)
  replace hT := hid (blk_below hT hb)
  clear hb hB2
  have cR0 := blk_cell hR.out 0
  have cR1 := blk_cell hR.out 1
  have zR := blk_lt hR.out
  have cT0 := blk_cell hT.out 0
  have cT1 := blk_cell hT.out 1
  have zT := blk_lt hT.out
  have f0 := blk_frozen hR.out 0
  have f1 := blk_frozen hR.out 1
  go_wp2
  refine bodyPost_ret (results_ct rfl _ _ w.heap.size 23 #[.int .i64 5, .string ⟨#[]⟩] (0, 0) _ rfl (blk_put (blk_put hR.out 0 _ rfl) 1 _ rfl) Tryd.underlying23 rfl (by kernel_rfl)) rfl ?_
  exact take_some (t := ⟨5, ⟨#[]⟩⟩) (b := r) rfl (n := 2) (by simp only [List.length_cons]; omega) rfl (below_set (below_set hB3 (Nat.le_refl _)) (Nat.le_refl _))

set_option maxHeartbeats 1000000 in
theorem take_1other (c : UInt8) (r : List UInt8) (w : World) (h1 : c ≠ 73) (h2 : c ≠ 74) (h3 : c ≠ 76) (hl : r.length ≤ 9223372036854775000) :
    Calls Tryd.prog 44 #[.string (tx (91 :: c :: r))] w (TakeAns (91 :: c :: r) w) := by
  have hsz : (tx (91 :: c :: r)).size = r.length + 2 := by rw [tx_size]; rfl
  have hp0 : 0 < (tx (91 :: c :: r)).size := by omega
  have hp1 : 1 < (tx (91 :: c :: r)).size := by omega
  have b0 : (((tx (91 :: c :: r))[0]'hp0).toNat : Int) = 91 := (tx_byte (c := 91) rfl hp0).trans rfl
  have b1 : (((tx (91 :: c :: r))[1]'hp1).toNat : Int) = c.toNat := (tx_byte (c := c) rfl hp1).trans rfl
  have n1 := byte_ne h1
  have n2 := byte_ne h2
  have n3 := byte_ne h3
  have q1 : ((c.toNat : Int) == 73) = false := n1
  have q2 : ((c.toNat : Int) == 74) = false := n2
  have q3 : ((c.toNat : Int) == 76) = false := n3
  have HK := hid (kind_other1 r h1 h2 h3)
  clear n1 n2 n3 h1 h2 h3
  generalize tx (91 :: c :: r) = s at *
  go_enter Tryd.func44, Tryd.ntmps44
  go_wp2
  refine bodyPost_ret (results_ct rfl _ _ w.heap.size 23 #[.int .i64 0, .string ⟨#[]⟩] (0, 0) _ rfl (blk_alloc (blk_new w _) _) Tryd.underlying23 rfl (by kernel_rfl)) rfl ?_
  exact take_none HK.out rfl (below_alloc (below_alloc (Below.refl _ _) _) _)

set_option maxHeartbeats 1000000 in
theorem take_1Lnone (r : List UInt8) (w : World) (hc : cutAt r = none) (hl : r.length ≤ 9223372036854775000) :
    Calls Tryd.prog 44 #[.string (tx (91 :: 76 :: r))] w (TakeAns (91 :: 76 :: r) w) := by
  have hsz : (tx (91 :: 76 :: r)).size = r.length + 2 := by rw [tx_size]; rfl
  have hp0 : 0 < (tx (91 :: 76 :: r)).size := by omega
  have hp1 : 1 < (tx (91 :: 76 :: r)).size := by omega
  have b0 : (((tx (91 :: 76 :: r))[0]'hp0).toNat : Int) = 91 := (tx_byte (c := 91) rfl hp0).trans rfl
  have b1 : (((tx (91 :: 76 :: r))[1]'hp1).toNat : Int) = 76 := (tx_byte (c := 76) rfl hp1).trans rfl
  have HK : Hid (kindL (91 :: 76 :: r) = none) := by
    show kindL (91 :: 76 :: r) = none
    rw [kind_L1, hc]
  have HN := hid (cutAt_no59 hc)
  have HB : Hid (∀ i (h : i < r.length) (h' : i + 2 < (tx (91 :: 76 :: r)).size), ((((tx (91 :: 76 :: r))[i + 2]'h').toNat : Int) == 59) = false) := fun i h h' => by
    have e : (91 :: 76 :: r)[i + 2]? = some (r[i]'h) := by
      show (91 :: 76 :: r)[i + 1 + 1]? = _
      simp [h]
    rw [tx_byte e h']
    exact byte_ne (d := 59) (fun e => HN.out (e ▸ List.getElem_mem h))
  clear hc
  have hz9 : ((1 : Int) == (r.length : Int) + 2) = false := by rw [beq_eq_false_iff_ne]; omega
  generalize tx (91 :: 76 :: r) = s at *
  go_enter Tryd.func44, Tryd.ntmps44
  go_wp2_with fail
  have hB1 := below_alloc (Below.refl w.heap.size w) (.cells #[.int .i64 0, .string ⟨#[]⟩] 23)
  have hR := blk_new w (.cells #[.int .i64 0, .string ⟨#[]⟩] 23)
  have hs1 := size_alloc w (.cells #[.int .i64 0, .string ⟨#[]⟩] 23)
  generalize w.alloc (.cells #[.int .i64 0, .string ⟨#[]⟩] 23) = W1 at *
  have hB2 := below_alloc hB1 (.cells #[.int .i64 3, .string ⟨#[]⟩] 23)
  have hT := blk_new W1 (.cells #[.int .i64 3, .string ⟨#[]⟩] 23)
  rw [hs1] at hT
  replace hR := blk_alloc hR (.cells #[.int .i64 3, .string ⟨#[]⟩] 23)
  have hs2 := size_alloc W1 (.cells #[.int .i64 3, .string ⟨#[]⟩] 23)
  generalize W1.alloc (.cells #[.int .i64 3, .string ⟨#[]⟩] 23) = W2 at *
  go_loopw [7] (fun e wr => ∃ i : Nat, i ≤ r.length ∧ e = .int .i64 (i + 2 : Nat) ∧ wr = W2) (fun e _ => r.length + 2 - (intOf e).toNat)
  case atStart => exact ⟨0, by omega, rfl, rfl⟩
  obtain ⟨i, hi, rfl, hwr⟩ := hrel
  subst hwr
  by_cases hlt : i < r.length
  · have hi' : i + 2 < s.size := by omega
    have hb := HB.out i hlt hi'
    have hi1 : (((i + 2 : Nat) : Int) + 1).toNat = i + 2 + 1 := by omega
    go_wp2
    go_roundw
    case rel => exact ⟨i + 1, by omega, by go_num, trivial⟩
    case measure => simp [intOf]; omega
  · have hii : i = r.length := by omega
    subst hii
    have f0 := blk_frozen hR 0
    have f1 := blk_frozen hR 1
    have c0 := blk_cell hR 0
    have c1 := blk_cell hR 1
    have zR := blk_lt hR
    go_wp2
    refine bodyPost_ret (results_ct rfl _ _ w.heap.size 23 #[.int .i64 0, .string ⟨#[]⟩] (0, 0) _ rfl (blk_put (blk_put hR 0 _ rfl) 1 _ rfl) Tryd.underlying23 rfl (by kernel_rfl)) rfl ?_
    exact take_none HK.out rfl (below_set (below_set hB2 (Nat.le_refl _)) (Nat.le_refl _))

set_option maxHeartbeats 1000000 in
theorem take_1Lok (a b : List UInt8) (r : List UInt8) (w : World) (hc : cutAt r = some (a, b)) (ho : tyOk ⟨6, tx a⟩ = true) (hl : r.length ≤ 9223372036854775000) :
    Calls Tryd.prog 44 #[.string (tx (91 :: 76 :: r))] w (TakeAns (91 :: 76 :: r) w) := by
  have hsz : (tx (91 :: 76 :: r)).size = r.length + 2 := by rw [tx_size]; rfl
  have hp0 : 0 < (tx (91 :: 76 :: r)).size := by omega
  have hp1 : 1 < (tx (91 :: 76 :: r)).size := by omega
  have b0 : (((tx (91 :: 76 :: r))[0]'hp0).toNat : Int) = 91 := (tx_byte (c := 91) rfl hp0).trans rfl
  have b1 : (((tx (91 :: 76 :: r))[1]'hp1).toNat : Int) = 76 := (tx_byte (c := 76) rfl hp1).trans rfl
  have HK : Hid (kindL (91 :: 76 :: r) = some (⟨6, tx a⟩, b)) := by
    show kindL (91 :: 76 :: r) = _
    rw [kind_L1, hc]
    simp only [ho]
    rfl
  have HO := hid ho
  obtain ⟨hr, _, hn59⟩ := cutAt_some hc
  have hra : r.length = a.length + 1 + b.length := by rw [hr]; simp; omega
  have HRA := hid hra
  have hle : a.length + 1 ≤ r.length := by omega
  have HN := hid hn59
  have HB : Hid (∀ i (h : i < a.length) (h' : i + 2 < (tx (91 :: 76 :: r)).size), ((((tx (91 :: 76 :: r))[i + 2]'h').toNat : Int) == 59) = false) := fun i h h' => by
    have e : (91 :: 76 :: r)[i + 2]? = some (a[i]'h) := by
      rw [hr]
      show (91 :: 76 :: (a ++ 59 :: b))[i + 1 + 1]? = _
      simp only [List.getElem?_cons_succ]
      rw [List.getElem?_append_left h, List.getElem?_eq_getElem h]
    rw [tx_byte e h']
    exact byte_ne (d := 59) (fun e => HN.out (e ▸ List.getElem_mem h))
  have hp2 : a.length + 2 < (tx (91 :: 76 :: r)).size := by omega
  have b2 : (((tx (91 :: 76 :: r))[a.length + 2]'hp2).toNat : Int) = 59 := by
    have e : (91 :: 76 :: r)[a.length + 2]? = some 59 := by
      rw [hr]
      show (91 :: 76 :: (a ++ 59 :: b))[a.length + 1 + 1]? = _
      simp
    exact tx_byte e hp2
  have HX : Hid ((tx (91 :: 76 :: r)).extract 2 (a.length + 2) = tx a) := by
    apply Go.WideShapes.bytes_inj
    rw [Lib.extract_data, tx_toList, tx_toList, hr]
    simp
  clear hc ho hr hn59 hra
  have hz9 : ((1 : Int) == (r.length : Int) + 2) = false := by rw [beq_eq_false_iff_ne]; omega
  generalize tx (91 :: 76 :: r) = s at *
  go_enter Tryd.func44, Tryd.ntmps44
  go_wp2_with fail
  have hB1 := below_alloc (Below.refl w.heap.size w) (.cells #[.int .i64 0, .string ⟨#[]⟩] 23)
  have hR := blk_new w (.cells #[.int .i64 0, .string ⟨#[]⟩] 23)
  have hs1 := size_alloc w (.cells #[.int .i64 0, .string ⟨#[]⟩] 23)
  generalize w.alloc (.cells #[.int .i64 0, .string ⟨#[]⟩] 23) = W1 at *
  have hB2 := below_alloc hB1 (.cells #[.int .i64 3, .string ⟨#[]⟩] 23)
  have hT := blk_new W1 (.cells #[.int .i64 3, .string ⟨#[]⟩] 23)
  rw [hs1] at hT
  replace hR := blk_alloc hR (.cells #[.int .i64 3, .string ⟨#[]⟩] 23)
  have hs2 := size_alloc W1 (.cells #[.int .i64 3, .string ⟨#[]⟩] 23)
  generalize W1.alloc (.cells #[.int .i64 3, .string ⟨#[]⟩] 23) = W2 at *
  go_loopw [7] (fun e wr => ∃ i : Nat, i ≤ a.length ∧ e = .int .i64 (i + 2 : Nat) ∧ wr = W2) (fun e _ => a.length + 2 - (intOf e).toNat)
  case atStart => exact ⟨0, by omega, rfl, rfl⟩
  obtain ⟨i, hi, rfl, hwr⟩ := hrel
  subst hwr
  by_cases hlt : i < a.length
  · have hi' : i + 2 < s.size := by omega
    have hb := HB.out i hlt hi'
    have hi1 : (((i + 2 : Nat) : Int) + 1).toNat = i + 2 + 1 := by omega
    go_wp2
    go_roundw
    case rel => exact ⟨i + 1, by omega, by go_num, trivial⟩
    case measure => simp [intOf]; omega
  have hii : i = a.length := by omega
  subst hii
  have c0 := blk_cell hT 0
  have c1 := blk_cell hT 1
  have f0 := blk_frozen hT 0
  have f1 := blk_frozen hT 1
  have zT := blk_lt hT
  go_wp2_with fail
  rw [HX.out]
  have hT3 : ((wr.setCell ⟨w.heap.size + 1, 1, none⟩ (.string (tx a))).setCell ⟨w.heap.size + 1, 0, none⟩ (.int .i64 6)).heap[w.heap.size + 1]? = some (.cells #[.int .i64 6, .string (tx a)] 23) := blk_put (blk_put hT 1 (.string (tx a)) rfl) 0 (.int .i64 6) rfl
  have hR3 := blk_far (blk_far hR (p := ⟨w.heap.size + 1, 1, none⟩) (by show w.heap.size ≠ w.heap.size + 1; omega) (.string (tx a))) (p := ⟨w.heap.size + 1, 0, none⟩) (by show w.heap.size ≠ w.heap.size + 1; omega) (.int .i64 6)
  have hB3 : Below w.heap.size w ((wr.setCell ⟨w.heap.size + 1, 1, none⟩ (.string (tx a))).setCell ⟨w.heap.size + 1, 0, none⟩ (.int .i64 6)) := below_set (below_set hB2 (by omega)) (by omega)
  clear c0 c1 f0 f1 zT
  generalize ((wr.setCell ⟨w.heap.size + 1, 1, none⟩ (.string (tx a))).setCell ⟨w.heap.size + 1, 0, none⟩ (.int .i64 6)) = W3 at *
  refine (refCheckType_any ⟨6, tx a⟩ W3).mono ?_
  intro e w4 hh
  obtain ⟨he, hb⟩ := hh
  obtain rfl : e = .returned (.int .i64 0) := he.trans (by rw [HO.out]; rfl)
  have hB4 := below_step hB3 hb
  have hT4 := blk_below hT3 hb
  have hR4 := blk_below hR3 hb
  clear he hb
  have c0 := blk_cell hT4 0
  have c1 := blk_cell hT4 1
  have zT := blk_lt hT4
  have d0 := blk_cell hR4 0
  have d1 := blk_cell hR4 1
  have f0 := blk_frozen hR4 0
  have f1 := blk_frozen hR4 1
  have zR := blk_lt hR4
  go_wp2
  refine bodyPost_ret (results_ct rfl _ _ w.heap.size 23 #[.int .i64 6, .string (tx a)] (0, 0) _ rfl (blk_put (blk_put hR4 0 _ rfl) 1 _ rfl) Tryd.underlying23 rfl (by kernel_rfl)) rfl ?_
  exact take_some HK.out (n := a.length + 3) (by have := HRA.out; simp only [List.length_cons]; omega) rfl (below_set (below_set hB4 (Nat.le_refl _)) (Nat.le_refl _))

set_option maxHeartbeats 1000000 in
theorem take_1Lbad (a b : List UInt8) (r : List UInt8) (w : World) (hc : cutAt r = some (a, b)) (ho : tyOk ⟨6, tx a⟩ = false) (hl : r.length ≤ 9223372036854775000) :
    Calls Tryd.prog 44 #[.string (tx (91 :: 76 :: r))] w (TakeAns (91 :: 76 :: r) w) := by
  have hsz : (tx (91 :: 76 :: r)).size = r.length + 2 := by rw [tx_size]; rfl
  have hp0 : 0 < (tx (91 :: 76 :: r)).size := by omega
  have hp1 : 1 < (tx (91 :: 76 :: r)).size := by omega
  have b0 : (((tx (91 :: 76 :: r))[0]'hp0).toNat : Int) = 91 := (tx_byte (c := 91) rfl hp0).trans rfl
  have b1 : (((tx (91 :: 76 :: r))[1]'hp1).toNat : Int) = 76 := (tx_byte (c := 76) rfl hp1).trans rfl
  have HK : Hid (kindL (91 :: 76 :: r) = none) := by
    show kindL (91 :: 76 :: r) = _
    rw [kind_L1, hc]
    simp only [ho]
    rfl
  have HO := hid ho
  obtain ⟨hr, _, hn59⟩ := cutAt_some hc
  have hra : r.length = a.length + 1 + b.length := by rw [hr]; simp; omega
  have HRA := hid hra
  have hle : a.length + 1 ≤ r.length := by omega
  have HN := hid hn59
  have HB : Hid (∀ i (h : i < a.length) (h' : i + 2 < (tx (91 :: 76 :: r)).size), ((((tx (91 :: 76 :: r))[i + 2]'h').toNat : Int) == 59) = false) := fun i h h' => by
    have e : (91 :: 76 :: r)[i + 2]? = some (a[i]'h) := by
      rw [hr]
      show (91 :: 76 :: (a ++ 59 :: b))[i + 1 + 1]? = _
      simp only [List.getElem?_cons_succ]
      rw [List.getElem?_append_left h, List.getElem?_eq_getElem h]
    rw [tx_byte e h']
    exact byte_ne (d := 59) (fun e => HN.out (e ▸ List.getElem_mem h))
  have hp2 : a.length + 2 < (tx (91 :: 76 :: r)).size := by omega
  have b2 : (((tx (91 :: 76 :: r))[a.length + 2]'hp2).toNat : Int) = 59 := by
    have e : (91 :: 76 :: r)[a.length + 2]? = some 59 := by
      rw [hr]
      show (91 :: 76 :: (a ++ 59 :: b))[a.length + 1 + 1]? = _
      simp
    exact tx_byte e hp2
  have HX : Hid ((tx (91 :: 76 :: r)).extract 2 (a.length + 2) = tx a) := by
    apply Go.WideShapes.bytes_inj
    rw [Lib.extract_data, tx_toList, tx_toList, hr]
    simp
  clear hc ho hr hn59 hra
  have hz9 : ((1 : Int) == (r.length : Int) + 2) = false := by rw [beq_eq_false_iff_ne]; omega
  generalize tx (91 :: 76 :: r) = s at *
  go_enter Tryd.func44, Tryd.ntmps44
  go_wp2_with fail
  have hB1 := below_alloc (Below.refl w.heap.size w) (.cells #[.int .i64 0, .string ⟨#[]⟩] 23)
  have hR := blk_new w (.cells #[.int .i64 0, .string ⟨#[]⟩] 23)
  have hs1 := size_alloc w (.cells #[.int .i64 0, .string ⟨#[]⟩] 23)
  generalize w.alloc (.cells #[.int .i64 0, .string ⟨#[]⟩] 23) = W1 at *
  have hB2 := below_alloc hB1 (.cells #[.int .i64 3, .string ⟨#[]⟩] 23)
  have hT := blk_new W1 (.cells #[.int .i64 3, .string ⟨#[]⟩] 23)
  rw [hs1] at hT
  replace hR := blk_alloc hR (.cells #[.int .i64 3, .string ⟨#[]⟩] 23)
  have hs2 := size_alloc W1 (.cells #[.int .i64 3, .string ⟨#[]⟩] 23)
  generalize W1.alloc (.cells #[.int .i64 3, .string ⟨#[]⟩] 23) = W2 at *
  go_loopw [7] (fun e wr => ∃ i : Nat, i ≤ a.length ∧ e = .int .i64 (i + 2 : Nat) ∧ wr = W2) (fun e _ => a.length + 2 - (intOf e).toNat)
  case atStart => exact ⟨0, by omega, rfl, rfl⟩
  obtain ⟨i, hi, rfl, hwr⟩ := hrel
  subst hwr
  by_cases hlt : i < a.length
  · have hi' : i + 2 < s.size := by omega
    have hb := HB.out i hlt hi'
    have hi1 : (((i + 2 : Nat) : Int) + 1).toNat = i + 2 + 1 := by omega
    go_wp2
    go_roundw
    case rel => exact ⟨i + 1, by omega, by go_num, trivial⟩
    case measure => simp [intOf]; omega
  have hii : i = a.length := by omega
  subst hii
  have c0 := blk_cell hT 0
  have c1 := blk_cell hT 1
  have f0 := blk_frozen hT 0
  have f1 := blk_frozen hT 1
  have zT := blk_lt hT
  go_wp2_with fail
  rw [HX.out]
  have hT3 : ((wr.setCell ⟨w.heap.size + 1, 1, none⟩ (.string (tx a))).setCell ⟨w.heap.size + 1, 0, none⟩ (.int .i64 6)).heap[w.heap.size + 1]? = some (.cells #[.int .i64 6, .string (tx a)] 23) := blk_put (blk_put hT 1 (.string (tx a)) rfl) 0 (.int .i64 6) rfl
  have hR3 := blk_far (blk_far hR (p := ⟨w.heap.size + 1, 1, none⟩) (by show w.heap.size ≠ w.heap.size + 1; omega) (.string (tx a))) (p := ⟨w.heap.size + 1, 0, none⟩) (by show w.heap.size ≠ w.heap.size + 1; omega) (.int .i64 6)
  have hB3 : Below w.heap.size w ((wr.setCell ⟨w.heap.size + 1, 1, none⟩ (.string (tx a))).setCell ⟨w.heap.size + 1, 0, none⟩ (.int .i64 6)) := below_set (below_set hB2 (by omega)) (by omega)
  clear c0 c1 f0 f1 zT
  generalize ((wr.setCell ⟨w.heap.size + 1, 1, none⟩ (.string (tx a))).setCell ⟨w.heap.size + 1, 0, none⟩ (.int .i64 6)) = W3 at *
  refine (refCheckType_any ⟨6, tx a⟩ W3).mono ?_
  intro e w4 hh
  obtain ⟨he, hb⟩ := hh
  obtain rfl : e = .returned (.int .i64 2) := he.trans (by rw [HO.out]; rfl)
  have hB4 := below_step hB3 hb
  have hT4 := blk_below hT3 hb
  have hR4 := blk_below hR3 hb
  clear he hb
  have c0 := blk_cell hT4 0
  have c1 := blk_cell hT4 1
  have zT := blk_lt hT4
  have d0 := blk_cell hR4 0
  have d1 := blk_cell hR4 1
  have f0 := blk_frozen hR4 0
  have f1 := blk_frozen hR4 1
  have zR := blk_lt hR4
  go_wp2
  refine bodyPost_ret (results_ct rfl _ _ w.heap.size 23 #[.int .i64 0, .string ⟨#[]⟩] (0, 0) _ rfl (blk_put (blk_put hR4 0 _ rfl) 1 _ rfl) Tryd.underlying23 rfl (by kernel_rfl)) rfl ?_
  exact take_none HK.out rfl (below_set (below_set hB4 (Nat.le_refl _)) (Nat.le_refl _))
end Go.Proofs.YtcaepnbamnicmaaDoor

/- The document's own reader (ref05): Proto. -/
import Derived.Test.YtcaepnbamnicmaaDoorDv
import Derived.Test.YtcaepnbamnicmaaDoorDi
namespace Go.Proofs.YtcaepnbamnicmaaDoor
open Go.RowKit Go.Proofs.YtcaepnbamnicmaaDoorW.PrintWords Go.Proofs.YtcaepnbamnicmaaDoorW.PrintMore

/-- How ref05.Proto's world stands. -/
structure RS (w : World) (acc : List Ty) (v : Value) (W : World) : Prop where
  below : Below w.heap.size w W
  res : W.heap[w.heap.size]? = some (.cells #[.int .i64 0, .string ⟨#[]⟩, .slice none 0 0] 29 (0, 0))
  p : W.heap[w.heap.size + 1]? = some (.cells #[.int .i64 0, .string ⟨#[]⟩, v] 29 (0, 0))
  row : Kd.R kTy 23 W w.heap.size (fun _ => True) v acc
theorem RS.step {w : World} {acc : List Ty} {v : Value} {W W' : World} (h : RS w acc v W) (k : Below W.heap.size W W') : RS w acc v W' :=
  ⟨below_step h.below k, blk_below h.res k, blk_below h.p k, Kd.R_below h.row k⟩
theorem RS.alloc {w : World} {acc : List Ty} {v : Value} {W : World} (h : RS w acc v W) (o : Obj) : RS w acc v (W.alloc o) :=
  ⟨below_alloc h.below o, blk_alloc h.res o, blk_alloc h.p o, Kd.R_alloc h.row o⟩
theorem RS.fin {w : World} {acc : List Ty} {v : Value} {W : World} (h : RS w acc v W) (a b c : Value) :
    Fin3 w (((W.setCell ⟨w.heap.size, 0, none⟩ a).setCell ⟨w.heap.size, 1, none⟩ b).setCell ⟨w.heap.size, 2, none⟩ c) #[a, b, c] v acc :=
  fin3 ⟨h.below, h.res, h.row⟩ a b c rfl
theorem RS.ret {w : World} {acc : List Ty} {v : Value} {W : World} (h : RS w acc v W) (x y a b c : Value) :
    Fin3 w (((((W.setCell ⟨w.heap.size + 1, 0, none⟩ x).setCell ⟨w.heap.size + 1, 1, none⟩ y).setCell ⟨w.heap.size, 0, none⟩ a).setCell ⟨w.heap.size, 1, none⟩ b).setCell ⟨w.heap.size, 2, none⟩ c) #[a, b, c] v acc :=
  fin3 ⟨below_set (below_set h.below (by omega)) (by omega), blk_far (blk_far h.res (by show w.heap.size ≠ w.heap.size + 1; omega) _) (by show w.heap.size ≠ w.heap.size + 1; omega) _,
    Kd.R_mono (Kd.R_far (Kd.R_far (Kd.R_types h.row h.p (by decide)) (fun _ hk => hk.2) _) (fun _ hk => hk.2) _) (fun _ _ => trivial)⟩ a b c rfl

theorem drop_at {l : List UInt8} {q : Nat} (h : q < l.length) : l.drop q = l[q] :: l.drop (q + 1) := List.drop_eq_getElem_cons h
theorem tx_cut (l : List UInt8) (q : Nat) : (tx l).extract q (tx l).size = tx (l.drop q) := by
  apply Go.WideShapes.bytes_inj
  rw [Lib.extract_data, tx_toList, tx_toList, tx_size]
  apply List.take_of_length_le
  rw [List.length_drop]
  omega
theorem kind_rest {l' b : List UInt8} {t : Ty} (h : kindL l' = some (t, b)) : l'.drop (l'.length - b.length) = b := by
  have := (kindL_text h).2
  rw [this, List.length_append, Nat.add_sub_cancel, List.drop_left]

theorem argsF_head {l' r : List UInt8} {c : UInt8} {n : Nat} {acc : List Ty} (h : l' = c :: r) :
    (c = 41 → argsF (n + 1) l' acc = some (acc, r)) ∧ (c ≠ 41 → kindL l' = none → argsF (n + 1) l' acc = none) ∧
    (∀ t b, c ≠ 41 → kindL l' = some (t, b) → (acc.length = 16 → argsF (n + 1) l' acc = none) ∧ (acc.length ≠ 16 → argsF (n + 1) l' acc = argsF n b (acc ++ [t]))) := by
  subst h
  refine ⟨fun h => ?_, fun h hk => ?_, fun t b h hk => ⟨fun h16 => ?_, fun h16 => ?_⟩⟩
  · subst h
    have hp : Lib.hasPrefix (41 :: r) [41] = true := hasPrefix_iff.2 ⟨r, rfl⟩
    rw [argsF, if_pos hp]
    rfl
  all_goals rw [argsF, pre_no _ _ _ _ h.symm, if_neg (by simp), hk]
  · simp only [if_pos h16]
  · simp only [if_neg h16]

def protoOf : Option (List Ty × List UInt8) → Option Pr
  | none => none
  | some (args, rest) => if rest = [86] then some ⟨zTy, args⟩ else (typeL rest).map fun t => ⟨t, args⟩
theorem protoL_eq {l : List UInt8} (h : Lib.hasPrefix l [40] = true) : protoL l = protoOf (argsF (l.length + 1) (l.drop 1) []) := by
  unfold protoL
  rw [if_pos h]
  cases argsF (l.length + 1) (l.drop 1) [] with
  | none => rfl
  | some x => rfl
theorem protoOf_void {args : List Ty} {rest : List UInt8} (h : rest = [86]) : protoOf (some (args, rest)) = some ⟨zTy, args⟩ := if_pos h
theorem protoOf_ret {args : List Ty} {rest : List UInt8} (h : rest ≠ [86]) : protoOf (some (args, rest)) = (typeL rest).map fun t => ⟨t, args⟩ := if_neg h

set_option maxHeartbeats 2000000 in
theorem refProto_no (l : List UInt8) (w : World) (hpre : Lib.hasPrefix l [40] = false) :
    Calls Tryd.prog 15 #[.string (tx l)] w fun e w' => ProtoAns l w e w' ∧ Below w.heap.size w w' := by
  have HL : Hid (protoL l = none) := by show protoL l = none; unfold protoL; rw [if_neg (by simp [hpre])]
  cases l with
  | nil =>
    have hsz : (tx []).size = 0 := rfl
    clear hpre
    generalize tx [] = s at *
    go_enter Tryd.func15, Tryd.ntmps15
    go_wp2
    refine bodyPost_ret (results_ct rfl _ _ w.heap.size 29 #[.int .i64 0, .string ⟨#[]⟩, .slice none 0 0] (0, 0) _ rfl (blk_new w _) Tryd.underlying29 rfl (by kernel_rfl)) rfl ?_
    exact ⟨by unfold ProtoAns; rw [HL.out]; rfl, below_alloc (Below.refl _ _) _⟩
  | cons c r =>
    have hc : c ≠ 40 := fun e => by
      subst e
      rw [show Lib.hasPrefix (40 :: r) [40] = true from hasPrefix_iff.2 ⟨r, rfl⟩] at hpre
      cases hpre
    have n1 : ((c.toNat : Int) == 40) = false := byte_ne (d := 40) hc
    have hsz : (tx (c :: r)).size = r.length + 1 := tx_size _
    have hp0 : 0 < (tx (c :: r)).size := by omega
    have b0 : (((tx (c :: r))[0]'hp0).toNat : Int) = c.toNat := tx_byte rfl hp0
    have hz0 : ((r.length : Int) + 1 == 0) = false := by rw [beq_eq_false_iff_ne]; omega
    clear hpre hc
    generalize tx (c :: r) = s at *
    go_enter Tryd.func15, Tryd.ntmps15
    go_wp2
    refine bodyPost_ret (results_ct rfl _ _ w.heap.size 29 #[.int .i64 0, .string ⟨#[]⟩, .slice none 0 0] (0, 0) _ rfl (blk_new w _) Tryd.underlying29 rfl (by kernel_rfl)) rfl ?_
    exact ⟨by unfold ProtoAns; rw [HL.out]; rfl, below_alloc (Below.refl _ _) _⟩

set_option maxHeartbeats 2000000 in
set_option maxRecDepth 100000 in
theorem refProto_yes (r : List UInt8) (w : World) (hl : (40 :: r).length ≤ 9223372036854775000) :
    Calls Tryd.prog 15 #[.string (tx (40 :: r))] w fun e w' => ProtoAns (40 :: r) w e w' ∧ Below w.heap.size w w' := by
  have HL : Hid (∀ x, argsF ((40 :: r).length + 1) ((40 :: r).drop 1) [] = x → protoL (40 :: r) = protoOf x) := by
    intro x hx
    have hpp : Lib.hasPrefix (40 :: r) [40] = true := hasPrefix_iff.2 ⟨r, rfl⟩
    rw [← hx]
    exact protoL_eq hpp
  have hsz := tx_size (40 :: r)
  have hlpos : 0 < (40 :: r).length := by simp
  have hp0 : 0 < (tx (40 :: r)).size := by omega
  have b0 : (((tx (40 :: r))[0]'hp0).toNat : Int) = 40 := (tx_byte (c := 40) rfl hp0).trans rfl
  have HAT : Hid (∀ q (h : q < (40 :: r).length) (h' : q < (tx (40 :: r)).size), (((tx (40 :: r))[q]'h').toNat : Int) = ((40 :: r)[q]'h).toNat) := fun q h h' => tx_byte (List.getElem?_eq_getElem h) h'
  have HCUT : Hid (∀ q, (tx (40 :: r)).extract q (40 :: r).length = tx ((40 :: r).drop q)) := fun q => by
    have := tx_cut (40 :: r) q
    rw [tx_size] at this
    exact this
  have hz0 : (((40 :: r).length : Int) == 0) = false := by rw [beq_eq_false_iff_ne]; omega
  generalize (40 :: r) = l at *
  generalize hts : tx l = s at *
  go_enter Tryd.func15, Tryd.ntmps15
  go_wp2_with fail
  obtain ⟨W0, hW0⟩ : ∃ W0, W0 = (w.alloc (.cells #[.int .i64 0, .string ⟨#[]⟩, .slice none 0 0] 29 (0, 0))).alloc (.cells #[.int .i64 0, .string ⟨#[]⟩, .slice none 0 0] 29 (0, 0)) := ⟨_, rfl⟩
  rw [← hW0]
  have hP0 : RS w [] (.slice none 0 0) W0 := by
    rw [hW0]
    refine ⟨below_alloc (below_alloc (Below.refl _ _) _) _, blk_alloc (blk_new _ _) _, ?_, Kd.R_nil _ _ _ _ _⟩
    have := blk_new (w.alloc (.cells #[.int .i64 0, .string ⟨#[]⟩, .slice none 0 0] 29 (0, 0))) (.cells #[.int .i64 0, .string ⟨#[]⟩, .slice none 0 0] 29 (0, 0))
    rw [size_alloc] at this
    exact this
  clear hW0
  go_loopw [5] (fun i wr => ∃ (q : Nat) (acc : List Ty) (v : Value) (n : Nat), i = .int .i64 q ∧ 1 ≤ q ∧ q ≤ l.length ∧ RS w acc v wr ∧ Hid (argsF n (l.drop q) acc = argsF (l.length + 1) (l.drop 1) []) ∧ l.length - q < n ∧ acc.length ≤ 16) (fun i _ => l.length - (intOf i).toNat)
  case atStart => exact ⟨1, [], .slice none 0 0, l.length + 1, rfl, by omega, by omega, hP0, rfl, by omega, by simp⟩
  obtain ⟨q, acc, v, n, rfl, hq1, hq, hQ, HF, hn, hacc⟩ := hrel
  obtain ⟨n, rfl⟩ : ∃ m, n = m + 1 := ⟨n - 1, by omega⟩
  by_cases hlt : q < l.length
  · have hq' : q < s.size := by omega
    have bq := HAT.out q hlt hq'
    have HD := hid (drop_at hlt)
    generalize l[q]'hlt = c at *
    have HTA := hid (argsF_head (n := n) (acc := acc) HD.out)
    by_cases hc : c = 41
    · subst hc
      have HA : Hid (argsF (l.length + 1) (l.drop 1) [] = some (acc, l.drop (q + 1))) := HF.out.symm.trans (HTA.out.1 rfl)
      have HL2 := hid (HL.out _ HA.out)
      have bq2 : ((s[q]'hq').toNat : Int) = 41 := bq
      have hqn : ((q : Int) == (l.length : Int)) = false := by rw [beq_eq_false_iff_ne]; omega
      have HX := hid (HCUT.out (q + 1))
      have hlen3 : (l.drop (q + 1)).length ≤ 9223372036854775000 := by rw [List.length_drop]; omega
      obtain ⟨A, c, rfl⟩ := Kd.R_slice hQ.row
      clear bq HD HTA HA HF HL HAT HCUT
      generalize l.drop (q + 1) = l3 at *
      have hr0 := blk_cell hQ.res 0
      have hf0 := blk_frozen hQ.res 0
      have hr1 := blk_cell hQ.res 1
      have hf1 := blk_frozen hQ.res 1
      have hr2 := blk_cell hQ.res 2
      have hf2 := blk_frozen hQ.res 2
      have hz := blk_lt hQ.res
      have hz2 := blk_lt hQ.p
      have hpp0 := blk_cell hQ.p 0
      have hp1 := blk_cell hQ.p 1
      have hp2 := blk_cell hQ.p 2
      have hpf0 := blk_frozen hQ.p 0
      have hpf1 := blk_frozen hQ.p 1
      have hpf2 := blk_frozen hQ.p 2
      by_cases h86 : l3 = [86]
      · have he : ((s.extract (q + 1) l.length).toList == [86]) = true := by rw [HX.out, ByteArray.toList_eq, tx_toList, h86]; rfl
        have HP : Hid (protoL l = some ⟨zTy, acc⟩) := HL2.out.trans (protoOf_void h86)
        clear HL2 h86
        go_wp2
        refine bodyPost_ret (results_ct rfl _ _ w.heap.size 29 #[.int .i64 0, .string ⟨#[]⟩, .slice A acc.length c] (0, 0) _ rfl (hQ.fin _ _ _).blk Tryd.underlying29 rfl (by kernel_rfl)) rfl ?_
        refine ⟨?_, (hQ.fin _ _ _).below⟩
        unfold ProtoAns
        rw [HP.out]
        exact ⟨.slice A acc.length c, rfl, (hQ.fin _ _ _).row⟩
      · have he : ((s.extract (q + 1) l.length).toList == [86]) = false := by rw [HX.out, ByteArray.toList_eq, tx_toList]; simpa using h86
        have HP : Hid (protoL l = (typeL l3).map fun t => ⟨t, acc⟩) := HL2.out.trans (protoOf_ret h86)
        clear HL2 h86
        go_wp2_with fail
        rw [HX.out]
        refine (refType_any l3 wr hlen3).mono ?_
        intro e w4 hh
        obtain ⟨rfl, hb4⟩ := hh
        have hQ4 := hQ.step hb4
        clear hQ hr0 hr1 hr2 hf0 hf1 hf2 hz hz2 hpp0 hp1 hp2 hpf0 hpf1 hpf2 hb4 he
        have hr0 := blk_cell hQ4.res 0
        have hf0 := blk_frozen hQ4.res 0
        have hr1 := blk_cell hQ4.res 1
        have hf1 := blk_frozen hQ4.res 1
        have hr2 := blk_cell hQ4.res 2
        have hf2 := blk_frozen hQ4.res 2
        have hz := blk_lt hQ4.res
        have hz2 := blk_lt hQ4.p
        cases ht : typeL l3 with
        | none =>
          have HT : typeRes l3 = .tuple #[.agg #[.int .i64 0, .string ⟨#[]⟩], .int .i64 50] := by unfold typeRes; rw [ht]
          rw [ht] at HP
          rw [HT]
          clear ht HT
          go_wp2
          refine bodyPost_ret (results_ct rfl _ _ w.heap.size 29 #[.int .i64 0, .string ⟨#[]⟩, .slice none 0 0] (0, 0) _ rfl (blk_alloc (hQ4.fin _ _ _).blk _) Tryd.underlying29 rfl (by kernel_rfl)) rfl ?_
          exact ⟨by unfold ProtoAns; rw [HP.out]; rfl, below_alloc (hQ4.fin _ _ _).below _⟩
        | some t =>
          have HT : typeRes l3 = .tuple #[.agg #[.int .i64 t.k, .string t.n], .int .i64 0] := by unfold typeRes; rw [ht]
          rw [ht] at HP
          rw [HT]
          have hpp0 := blk_cell hQ4.p 0
          have hp1 := blk_cell hQ4.p 1
          have hp2 := blk_cell hQ4.p 2
          have hpf0 := blk_frozen hQ4.p 0
          have hpf1 := blk_frozen hQ4.p 1
          have hpf2 := blk_frozen hQ4.p 2
          clear ht HT
          go_wp2
          refine bodyPost_ret (results_ct rfl _ _ w.heap.size 29 #[.int .i64 t.k, .string t.n, .slice A acc.length c] (0, 0) _ rfl (blk_alloc (hQ4.ret _ _ _ _ _).blk _) Tryd.underlying29 rfl (by kernel_rfl)) rfl ?_
          refine ⟨?_, below_alloc (hQ4.ret _ _ _ _ _).below _⟩
          unfold ProtoAns
          rw [HP.out]
          exact ⟨.slice A acc.length c, rfl, Kd.R_alloc (hQ4.ret _ _ _ _ _).row _⟩
    · have n1 : ((c.toNat : Int) == 41) = false := byte_ne (d := 41) hc
      have HX := hid (HCUT.out q)
      have hlen3 : (l.drop q).length ≤ 9223372036854775000 := by rw [List.length_drop]; omega
      have hlen4 : (l.drop q).length = l.length - q := List.length_drop
      cases hk : kindL (l.drop q) with
      | none =>
        have HP : Hid (protoL l = none) := HL.out none (HF.out.symm.trans (HTA.out.2.1 hc hk))
        have HK := hid hk
        clear hk HL HTA HF HCUT HAT HD hlen4
        generalize l.drop q = l3 at *
        go_wp2_with fail
        rw [HX.out]
        refine (refTake_any l3 wr hlen3).mono ?_
        intro e w4 hA
        obtain ⟨he, hb4⟩ := hA.no HK.out
        subst he
        have hQ4 := hQ.step hb4
        clear hA hQ hb4
        have hr0 := blk_cell hQ4.res 0
        have hf0 := blk_frozen hQ4.res 0
        have hr1 := blk_cell hQ4.res 1
        have hf1 := blk_frozen hQ4.res 1
        have hr2 := blk_cell hQ4.res 2
        have hf2 := blk_frozen hQ4.res 2
        have hz := blk_lt hQ4.res
        have hz2 := blk_lt hQ4.p
        go_wp2
        refine bodyPost_ret (results_ct rfl _ _ w.heap.size 29 #[.int .i64 0, .string ⟨#[]⟩, .slice none 0 0] (0, 0) _ rfl (blk_alloc (hQ4.fin _ _ _).blk _) Tryd.underlying29 rfl (by kernel_rfl)) rfl ?_
        exact ⟨by unfold ProtoAns; rw [HP.out]; rfl, below_alloc (hQ4.fin _ _ _).below _⟩
      | some x =>
        obtain ⟨t, b⟩ := x
        have hrest := kind_rest hk
        have HTS := hid (HTA.out.2.2 t b hc hk)
        have HK := hid hk
        by_cases h16 : acc.length = 16
        · have HP : Hid (protoL l = none) := HL.out none (HF.out.symm.trans (HTS.out.1 h16))
          clear hk HL HTA HTS HF HCUT HAT HD hlen4 hrest
          generalize l.drop q = l3 at *
          go_wp2_with fail
          rw [HX.out]
          refine (refTake_any l3 wr hlen3).mono ?_
          intro e w4 hA
          obtain ⟨m, hm, hm0, hm1, he, hb4⟩ := hA.yes HK.out
          subst he
          have hQ4 := hQ.step hb4
          obtain ⟨A, c, rfl⟩ := Kd.R_slice hQ4.row
          have q0 : ((m : Int) == 0) = false := by rw [beq_eq_false_iff_ne]; omega
          have q16 : ((acc.length : Int) == 16) = true := by rw [beq_iff_eq]; omega
          clear hA hQ hb4 hm hm1
          have hr0 := blk_cell hQ4.res 0
          have hf0 := blk_frozen hQ4.res 0
          have hr1 := blk_cell hQ4.res 1
          have hf1 := blk_frozen hQ4.res 1
          have hr2 := blk_cell hQ4.res 2
          have hf2 := blk_frozen hQ4.res 2
          have hz := blk_lt hQ4.res
          have hz2 := blk_lt hQ4.p
          have hp2 := blk_cell hQ4.p 2
          go_wp2
          refine bodyPost_ret (results_ct rfl _ _ w.heap.size 29 #[.int .i64 0, .string ⟨#[]⟩, .slice none 0 0] (0, 0) _ rfl (blk_alloc (hQ4.fin _ _ _).blk _) Tryd.underlying29 rfl (by kernel_rfl)) rfl ?_
          exact ⟨by unfold ProtoAns; rw [HP.out]; rfl, below_alloc (hQ4.fin _ _ _).below _⟩
        · have HF2 : Hid (argsF n b (acc ++ [t]) = argsF (l.length + 1) (l.drop 1) []) := (HTS.out.2 h16).symm.trans HF.out
          clear hk HL HTA HTS HF HCUT HAT HD
          go_wp2_with fail
          rw [HX.out]
          refine (refTake_any (l.drop q) wr hlen3).mono ?_
          intro e w4 hA
          obtain ⟨m, hm, hm0, hm1, he, hb4⟩ := hA.yes HK.out
          subst he
          have hQ4 := hQ.step hb4
          obtain ⟨A, c, rfl⟩ := Kd.R_slice hQ4.row
          have hbb : l.drop (q + m) = b := by rw [← hrest, List.drop_drop, hm]
          have HBB := hid hbb
          have q0 : ((m : Int) == 0) = false := by rw [beq_eq_false_iff_ne]; omega
          have q16 : ((acc.length : Int) == 16) = false := by rw [beq_eq_false_iff_ne]; omega
          have hqm : q + m ≤ l.length := by omega
          have hqm2 : l.length - (q + m) < n := by omega
          clear hA hQ hb4 hm hm1 hrest hlen4 hlen3 HX HK hbb bq
          have hp2 := blk_cell hQ4.p 2
          have hz3 := blk_lt hQ4.p
          go_wp2_with ((with_reducible refine gate_builtin (b := .append) (xs := #[.tmp 48, .tmp 50]) rfl ?_); at_builtin; refine Kd.R_append kTy (w0 := w) w.heap.size rfl (.tmp 48) (.tmp 50) 27 23 (.agg #[.int .i64 0, .string ⟨#[]⟩]) 24 rfl Tryd.underlying27 infoTy rfl (by decide) (by omega) (.slice A acc.length c) acc t [.int .i64 t.k, .string t.n] (fun _ => True) (fun _ => False) rfl (by first | (go_simp; done) | (go_simp; rfl)) ?aP (fun _ hk => hk.elim) (fun _ _ => trivial) ?aO ?aB ?aS ?aL ?_; (case aP => exact kTy_mkM _ _ _ t); (case aO => exact Kd.R_alloc hQ4.row _); (case aB => exact below_alloc hQ4.below _); (case aS => have := hQ4.below.size; simp; omega); (case aL => omega); intro v1 w5 ho hb5 hg5 hat5; obtain ⟨A5, c5, rfl⟩ := Kd.R_slice ho; have HO5 := hid ho; clear ho; have hp5 := hid (blk_grown (blk_alloc hQ4.p _) hg5 (Kd.R_ne hQ4.row hQ4.p (by decide))); have hr5 := hid (blk_grown (blk_alloc hQ4.res _) hg5 (Kd.R_ne hQ4.row hQ4.res (by decide))); clear hQ4 hp2 hat5 hg5; have hp50 := blk_cell hp5.out 2; have hpf5 := blk_frozen hp5.out 2)
          have el : (acc ++ [t]).length = acc.length + 1 := by simp
          have hrow := HO5.out
          rw [el] at hrow
          have hQ6 : RS w (acc ++ [t]) (.slice A5 (acc.length + 1) c5) (w5.setCell ⟨w.heap.size + 1, 2, none⟩ (.slice A5 (acc.length + 1) c5)) :=
            ⟨below_set hb5 (by omega), blk_far hr5.out (by show w.heap.size ≠ w.heap.size + 1; omega) _, blk_put hp5.out 2 _ rfl, Kd.R_mono (Kd.R_far (Kd.R_types hrow hp5.out (by decide)) (fun _ hk => hk.2) _) (fun _ _ => trivial)⟩
          exact ⟨⟨q + m, acc ++ [t], .slice A5 (acc.length + 1) c5, n, by go_num, by omega, hqm, hQ6, by rw [HBB.out]; exact HF2, hqm2, by rw [el]; omega⟩, by simp only [intOf]; omega⟩
  · have hqe : q = l.length := by omega
    have HP : Hid (protoL l = none) := by
      refine HL.out none (HF.out.symm.trans ?_)
      rw [hqe, List.drop_length]
      rfl
    clear HL HF HCUT HAT
    have hqn : ((q : Int) == (l.length : Int)) = true := by rw [beq_iff_eq]; omega
    have hr0 := blk_cell hQ.res 0
    have hf0 := blk_frozen hQ.res 0
    have hr1 := blk_cell hQ.res 1
    have hf1 := blk_frozen hQ.res 1
    have hr2 := blk_cell hQ.res 2
    have hf2 := blk_frozen hQ.res 2
    have hz := blk_lt hQ.res
    have hz2 := blk_lt hQ.p
    go_wp2
    refine bodyPost_ret (results_ct rfl _ _ w.heap.size 29 #[.int .i64 0, .string ⟨#[]⟩, .slice none 0 0] (0, 0) _ rfl (hQ.fin _ _ _).blk Tryd.underlying29 rfl (by kernel_rfl)) rfl ?_
    exact ⟨by unfold ProtoAns; rw [HP.out]; rfl, (hQ.fin _ _ _).below⟩

theorem refProto_any (l : List UInt8) (w : World) (hl : l.length ≤ 9223372036854775000) :
    Calls Tryd.prog 15 #[.string (tx l)] w fun e w' => ProtoAns l w e w' ∧ Below w.heap.size w w' := by
  cases hpre : Lib.hasPrefix l [40] with
  | false => exact refProto_no l w hpre
  | true =>
    obtain ⟨r, rfl⟩ := hasPrefix_iff.1 hpre
    exact refProto_yes r w hl
end Go.Proofs.YtcaepnbamnicmaaDoor

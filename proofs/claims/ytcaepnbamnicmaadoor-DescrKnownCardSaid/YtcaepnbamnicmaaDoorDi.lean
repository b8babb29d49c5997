/- descr.Proto. -/
import Derived.Test.YtcaepnbamnicmaaDoorDh
import Derived.Test.YtcaepnbamnicmaaDoorWMore
namespace Go.Proofs.YtcaepnbamnicmaaDoor
open Go.RowKit Go.Proofs.YtcaepnbamnicmaaDoorW.PrintWords Go.Proofs.YtcaepnbamnicmaaDoorW.PrintMore

theorem kindL_lt {l : List UInt8} {t : Ty} {b : List UInt8} (h : kindL l = some (t, b)) : b.length < l.length := by
  have : ∀ d j, kindFrom d j l = some (t, b) → b.length < l.length := by
    intro d
    induction d with
    | zero => intro j h; cases h
    | succ d ih =>
      intro j h
      unfold kindFrom at h
      have hbl : 0 < (befL j).length := by unfold befL; split <;> simp
      split at h
      · rename_i hp
        have hlen : (befL j).length ≤ l.length := (List.isPrefixOf_iff_prefix.1 hp).length_le
        split at h
        · split at h
          · cases h
          · rename_i a b' hc
            split at h
            · cases h
              have h1 := (cutAt_some hc).1
              have := congrArg List.length h1
              simp at this
              omega
            · cases h
        · cases h
          rw [List.length_drop]
          omega
      · exact ih _ h
  exact this _ _ h

/-- The arguments of a proto, up to the bracket. -/
def argsF : Nat → List UInt8 → List Ty → Option (List Ty × List UInt8)
  | 0, _, _ => none
  | n + 1, l, acc =>
    if Lib.hasPrefix l [41] then some (acc, l.drop 1) else
    match kindL l with
    | none => none
    | some (t, b) => if acc.length = 16 then none else argsF n b (acc ++ [t])
/-- The proto that a text tells. -/
def protoL (l : List UInt8) : Option Pr :=
  if Lib.hasPrefix l [40] then
    match argsF (l.length + 1) (l.drop 1) [] with
    | none => none
    | some (args, rest) => if rest = [86] then some ⟨zTy, args⟩ else (typeL rest).map fun t => ⟨t, args⟩
  else none
def ProtoAns (l : List UInt8) (w : World) (e : Ending) (w' : World) : Prop :=
  match protoL l with
  | none => e = .returned (.tuple #[.agg #[.int .i64 0, .string ⟨#[]⟩, .slice none 0 0], .int .i64 50])
  | some p => ∃ v, e = .returned (.tuple #[.agg #[.int .i64 p.ret.k, .string p.ret.n, v], .int .i64 0]) ∧ Kd.R kTy 23 w' w.heap.size (fun _ => True) v p.args

/-- How Proto's world stands. -/
structure PS (w : World) (l : List UInt8) (acc : List Ty) (v : Value) (W : World) : Prop where
  below : Below w.heap.size w W
  res : W.heap[w.heap.size]? = some (.cells #[.int .i64 0, .string ⟨#[]⟩, .slice none 0 0] 29 (0, 0))
  rd : Rd (w.heap.size + 1) l W
  p : W.heap[w.heap.size + 1 + 1]? = some (.cells #[.int .i64 0, .string ⟨#[]⟩, v] 29 (0, 0))
  row : Kd.R kTy 23 W w.heap.size (fun _ => True) v acc
theorem PS.kp {w : World} {l l' : List UInt8} {acc : List Ty} {v : Value} {W W' : World} (h : PS w l acc v W) (k : Kp (w.heap.size + 1) W W') (hr : Rd (w.heap.size + 1) l' W') : PS w l' acc v W' :=
  ⟨h.below.trans (k.below.mono (by omega)), k.blk (by omega) h.res, hr, k.blk (by omega) h.p, Kd.R_mono (Kd.R_step (Kd.R_types h.row h.rd (by decide)) (fun i hi hl => k.block i hl hi.2)) (fun _ _ => trivial)⟩
theorem PS.step {w : World} {l : List UInt8} {acc : List Ty} {v : Value} {W W' : World} (h : PS w l acc v W) (k : Below W.heap.size W W') : PS w l acc v W' :=
  ⟨below_step h.below k, blk_below h.res k, blk_below h.rd k, blk_below h.p k, Kd.R_below h.row k⟩
structure Fin3 (w W : World) (z : Array Value) (v : Value) (acc : List Ty) : Prop where
  below : Below w.heap.size w W
  blk : W.heap[w.heap.size]? = some (.cells z 29 (0, 0))
  row : Kd.R kTy 23 W w.heap.size (fun _ => True) v acc
theorem fin3 {w W : World} {z : Array Value} {acc : List Ty} {v : Value} (h : Fin3 w W z v acc) (a b c : Value) {z' : Array Value} (hz : ((z.setIfInBounds 0 a).setIfInBounds 1 b).setIfInBounds 2 c = z') :
    Fin3 w (((W.setCell ⟨w.heap.size, 0, none⟩ a).setCell ⟨w.heap.size, 1, none⟩ b).setCell ⟨w.heap.size, 2, none⟩ c) z' v acc :=
  ⟨below_set (below_set (below_set h.below (Nat.le_refl _)) (Nat.le_refl _)) (Nat.le_refl _), blk_put (blk_put (blk_put h.blk 0 _ rfl) 1 _ rfl) 2 _ hz,
   Kd.R_mono (Kd.R_far (Kd.R_far (Kd.R_far (Kd.R_types h.row h.blk (by decide)) (fun _ hk => hk.2) _) (fun _ hk => hk.2) _) (fun _ hk => hk.2) _) (fun _ _ => trivial)⟩
theorem PS.fin {w : World} {l : List UInt8} {acc : List Ty} {v : Value} {W : World} (h : PS w l acc v W) (a b c : Value) :
    Fin3 w (((W.setCell ⟨w.heap.size, 0, none⟩ a).setCell ⟨w.heap.size, 1, none⟩ b).setCell ⟨w.heap.size, 2, none⟩ c) #[a, b, c] v acc :=
  fin3 ⟨h.below, h.res, h.row⟩ a b c rfl
/-- With p's Ret laid. -/
theorem PS.ret {w : World} {l : List UInt8} {acc : List Ty} {v : Value} {W : World} (h : PS w l acc v W) (x y a b c : Value) :
    Fin3 w (((((W.setCell ⟨w.heap.size + 1 + 1, 0, none⟩ x).setCell ⟨w.heap.size + 1 + 1, 1, none⟩ y).setCell ⟨w.heap.size, 0, none⟩ a).setCell ⟨w.heap.size, 1, none⟩ b).setCell ⟨w.heap.size, 2, none⟩ c) #[a, b, c] v acc :=
  fin3 ⟨below_set (below_set h.below (by omega)) (by omega), blk_far (blk_far h.res (by show w.heap.size ≠ w.heap.size + 1 + 1; omega) _) (by show w.heap.size ≠ w.heap.size + 1 + 1; omega) _,
    Kd.R_mono (Kd.R_far (Kd.R_far (Kd.R_types h.row h.p (by decide)) (fun _ hk => hk.2) _) (fun _ hk => hk.2) _) (fun _ _ => trivial)⟩ a b c rfl
theorem hasPrefix_drop_len {l p : List UInt8} : (l.drop p.length).length ≤ l.length := by rw [List.length_drop]; omega

/-- How much the reader has left. -/
def rdLen (w : World) (g : Nat) : Nat := match w.heap[g]? with
  | some (.cells c _ _) => match (c[0]? : Option Value) with
    | some (.string s) => s.size
    | _ => 0
  | _ => 0
theorem rdLen_of {w : World} {g : Nat} {l : List UInt8} (h : Rd g l w) : rdLen w g = l.length := by
  unfold rdLen
  rw [h]
  exact tx_size l
theorem drop_len (l : List UInt8) : (l.drop 1).length = l.length - 1 := List.length_drop
theorem hasPrefix_pos {l : List UInt8} {c : UInt8} (h : Lib.hasPrefix l [c] = true) : 0 < l.length := by
  have := (List.isPrefixOf_iff_prefix.1 h).length_le
  simp at this
  omega

theorem infoTy : (Tryd.prog.info? 23).map (fun i => (i.zero, i.size, i.bytes)) = some (some (.agg #[.int .i64 0, .string ⟨#[]⟩]), 2, 24) := by kernel_rfl

set_option maxHeartbeats 2000000 in
set_option maxRecDepth 100000 in
theorem proto_any (l : List UInt8) (w : World) (hS : Sg w) (hl : l.length ≤ 9223372036854775807) :
    Calls Tryd.prog 14 #[.string (tx l)] w fun e w' => ProtoAns l w e w' ∧ Below w.heap.size w w' := by
  have h0 := hS.lt
  have HS := hid hS
  clear hS
  go_enter Tryd.func14, Tryd.ntmps14
  go_wp2_with fail
  obtain ⟨W0, hW0⟩ : ∃ W0, W0 = ((w.alloc (.cells #[.int .i64 0, .string ⟨#[]⟩, .slice none 0 0] 29 (0, 0))).alloc (.cells #[.string (tx l)] 54 (0, 0))).alloc (.cells #[.int .i64 0, .string ⟨#[]⟩, .slice none 0 0] 29 (0, 0)) := ⟨_, rfl⟩
  rw [← hW0]
  have hP0 : PS w l [] (.slice none 0 0) W0 := by
    rw [hW0]
    refine ⟨below_alloc (below_alloc (below_alloc (Below.refl _ _) _) _) _, blk_alloc (blk_alloc (blk_new _ _) _) _, ?_, ?_, Kd.R_nil _ _ _ _ _⟩
    · have := blk_alloc (blk_new (w.alloc (.cells #[.int .i64 0, .string ⟨#[]⟩, .slice none 0 0] 29 (0, 0))) (.cells #[.string (tx l)] 54 (0, 0))) (.cells #[.int .i64 0, .string ⟨#[]⟩, .slice none 0 0] 29 (0, 0))
      rw [size_alloc] at this
      exact this
    · have := blk_new ((w.alloc (.cells #[.int .i64 0, .string ⟨#[]⟩, .slice none 0 0] 29 (0, 0))).alloc (.cells #[.string (tx l)] 54 (0, 0))) (.cells #[.int .i64 0, .string ⟨#[]⟩, .slice none 0 0] 29 (0, 0))
      rw [size_alloc, size_alloc] at this
      exact this
  clear hW0
  cases hpre : Lib.hasPrefix l [40] with
  | false =>
    have HL : Hid (protoL l = none) := by show protoL l = none; unfold protoL; rw [if_neg (by simp [hpre])]
    refine (takes_no (w.heap.size + 1) l [40] W0 (blk_cell hP0.rd 0) hpre).mono ?_
    intro e w2 hh
    obtain ⟨rfl, rfl⟩ := hh
    have hr0 := blk_cell hP0.res 0
    have hr1 := blk_cell hP0.res 1
    have hr2 := blk_cell hP0.res 2
    have hf0 := blk_frozen hP0.res 0
    have hf1 := blk_frozen hP0.res 1
    have hf2 := blk_frozen hP0.res 2
    go_wp2
    refine bodyPost_ret (results_ct rfl _ _ w.heap.size 29 #[.int .i64 0, .string ⟨#[]⟩, .slice none 0 0] (0, 0) _ rfl (blk_put (blk_put (blk_put hP0.res 0 _ rfl) 1 _ rfl) 2 _ rfl) Tryd.underlying29 rfl (by kernel_rfl)) rfl ?_
    exact ⟨by unfold ProtoAns; rw [HL.out]; rfl, below_set (below_set (below_set hP0.below (Nat.le_refl _)) (Nat.le_refl _)) (Nat.le_refl _)⟩
  | true =>
    refine (takes_yes (w.heap.size + 1) l [40] W0 (blk_cell hP0.rd 0) (blk_frozen hP0.rd 0) hpre).mono ?_
    rintro e w2 ⟨rfl, hw2⟩
    have hP : PS w (l.drop 1) [] (.slice none 0 0) w2 := by
      rw [hw2]
      exact hP0.kp (Kp.set _ _ _) (blk_put hP0.rd 0 _ rfl)
    have hll := hasPrefix_pos hpre
    have HL : Hid (∀ r, argsF (l.length + 1) (l.drop 1) [] = r → protoL l = match r with
        | none => none
        | some (args, rest) => if rest = [86] then some ⟨zTy, args⟩ else (typeL rest).map fun t => ⟨t, args⟩) := by
      intro r hr
      unfold protoL
      rw [if_pos hpre, hr]
    clear hw2 hP0 W0 hpre
    go_wp2_with fail
    go_loopw [3] (fun s wr => s = .int .i64 0 ∧ ∃ (l' : List UInt8) (acc : List Ty) (v : Value) (n : Nat), PS w l' acc v wr ∧ Hid (argsF n l' acc = argsF (l.length + 1) (l.drop 1) []) ∧ l'.length < n ∧ acc.length ≤ 16 ∧ l'.length ≤ l.length) (fun _ wr => rdLen wr (w.heap.size + 1))
    case atStart => exact ⟨rfl, l.drop 1, [], .slice none 0 0, l.length + 1, hP, rfl, by rw [drop_len]; omega, by simp, by rw [drop_len]; omega⟩
    case round =>
      obtain ⟨rfl, l', acc, v, n, hQ, HF, hn, hacc, hll'⟩ := hrel
      have hlen := hid (rdLen_of hQ.rd)
      obtain ⟨n, rfl⟩ : ∃ m, n = m + 1 := ⟨n - 1, by omega⟩
      cases hpre : Lib.hasPrefix l' [41] with
      | true =>
        have HA : Hid (argsF (l.length + 1) (l.drop 1) [] = some (acc, l'.drop 1)) := by
          have := HF.out
          rw [argsF, if_pos hpre] at this
          exact this.symm
        have HL2 := hid (HL.out _ HA.out)
        go_wp2_with fail
        refine (takes_yes (w.heap.size + 1) l' [41] wr (blk_cell hQ.rd 0) (blk_frozen hQ.rd 0) hpre).mono ?_
        intro e w3 hh
        obtain ⟨rfl, hw3⟩ := hh
        have hQ3 : PS w (l'.drop 1) acc v w3 := by
          rw [hw3]
          exact hQ.kp (Kp.set _ _ _) (blk_put hQ.rd 0 _ rfl)
        clear hw3 hQ
        generalize hl3 : l'.drop 1 = l3 at *
        have hl33 : l3.length ≤ l.length := by rw [← hl3, drop_len]; omega
        clear hl3 HA HF hlen hpre
        obtain ⟨A, c, rfl⟩ := Kd.R_slice hQ3.row
        have hg0 := blk_cell hQ3.rd 0
        have hr0 := blk_cell hQ3.res 0
        have hr1 := blk_cell hQ3.res 1
        have hr2 := blk_cell hQ3.res 2
        have hf0 := blk_frozen hQ3.res 0
        have hf1 := blk_frozen hQ3.res 1
        have hf2 := blk_frozen hQ3.res 2
        have hp0 := blk_cell hQ3.p 0
        have hp1 := blk_cell hQ3.p 1
        have hp2 := blk_cell hQ3.p 2
        by_cases h86 : l3 = [86]
        · have he : ((tx l3).toList == [86]) = true := by rw [ByteArray.toList_eq, tx_toList, h86]; rfl
          have HP : Hid (protoL l = some ⟨zTy, acc⟩) := by
            have := HL2.out
            rw [if_pos h86] at this
            exact this
          clear HL2 h86
          go_wp2
          refine bodyPost_ret (results_ct rfl _ _ w.heap.size 29 #[.int .i64 0, .string ⟨#[]⟩, .slice A acc.length c] (0, 0) _ rfl (hQ3.fin _ _ _).blk Tryd.underlying29 rfl (by kernel_rfl)) rfl ?_
          refine ⟨?_, (hQ3.fin _ _ _).below⟩
          unfold ProtoAns
          rw [HP.out]
          exact ⟨.slice A acc.length c, rfl, (hQ3.fin _ _ _).row⟩
        · have he : ((tx l3).toList == [86]) = false := by rw [ByteArray.toList_eq, tx_toList]; simpa using h86
          have HP : Hid (protoL l = (typeL l3).map fun t => ⟨t, acc⟩) := by
            have := HL2.out
            rw [if_neg h86] at this
            exact this
          clear HL2 h86
          go_wp2_with fail
          refine (type_any l3 w3 (HS.out.below h0 hQ3.below) (by omega)).mono ?_
          intro e w4 hh
          obtain ⟨rfl, hb4⟩ := hh
          have hQ4 := hQ3.step hb4
          clear hQ3 hg0 hr0 hr1 hr2 hf0 hf1 hf2 hp0 hp1 hp2 hb4 he
          have hr0 := blk_cell hQ4.res 0
          have hr1 := blk_cell hQ4.res 1
          have hr2 := blk_cell hQ4.res 2
          have hf0 := blk_frozen hQ4.res 0
          have hf1 := blk_frozen hQ4.res 1
          have hf2 := blk_frozen hQ4.res 2
          have hz := blk_lt hQ4.res
          have hz2 := blk_lt hQ4.p
          cases ht : typeL l3 with
          | none =>
            have HT : typeRes l3 = .tuple #[.agg #[.int .i64 0, .string ⟨#[]⟩], .int .i64 50] := by unfold typeRes; rw [ht]
            rw [ht] at HP
            rw [HT]
            clear ht HT
            go_wp2
            refine bodyPost_ret (results_ct rfl _ _ w.heap.size 29 #[.int .i64 0, .string ⟨#[]⟩, .slice none 0 0] (0, 0) _ rfl (blk_alloc (hQ4.fin _ _ _).blk _) Tryd.underlying29 rfl (by kernel_rfl)) rfl ?_
            exact ⟨by unfold ProtoAns; rw [HP.out]; rfl, below_alloc (hQ4.fin _ _ _).below _⟩
          | some t =>
            have HT : typeRes l3 = .tuple #[.agg #[.int .i64 t.k, .string t.n], .int .i64 0] := by unfold typeRes; rw [ht]
            rw [ht] at HP
            rw [HT]
            have hp0 := blk_cell hQ4.p 0
            have hp1 := blk_cell hQ4.p 1
            have hp2 := blk_cell hQ4.p 2
            have hpf0 := blk_frozen hQ4.p 0
            have hpf1 := blk_frozen hQ4.p 1
            clear ht HT
            go_wp2
            refine bodyPost_ret (results_ct rfl _ _ w.heap.size 29 #[.int .i64 t.k, .string t.n, .slice A acc.length c] (0, 0) _ rfl (blk_alloc (hQ4.ret _ _ _ _ _).blk _) Tryd.underlying29 rfl (by kernel_rfl)) rfl ?_
            refine ⟨?_, below_alloc (hQ4.ret _ _ _ _ _).below _⟩
            unfold ProtoAns
            rw [HP.out]
            exact ⟨.slice A acc.length c, rfl, Kd.R_alloc (hQ4.ret _ _ _ _ _).row _⟩
      | false =>
        go_wp2_with fail
        refine (takes_no (w.heap.size + 1) l' [41] wr (blk_cell hQ.rd 0) hpre).mono ?_
        intro e w3 hh
        obtain ⟨rfl, rfl⟩ := hh
        cases hk : kindL l' with
        | none =>
          have HP : Hid (protoL l = none) := by
            refine HL.out none ?_
            have := HF.out
            rw [argsF, if_neg (by simp [hpre]), hk] at this
            exact this.symm
          go_wp2_with fail
          refine (kind_any (w.heap.size + 1) l' w3 (HS.out.below h0 hQ.below) (by omega) hQ.rd (by omega)).mono ?_
          intro e w4 hA
          obtain ⟨t, rfl, hK⟩ := hA.no hk
          have hR4 := hid (hK.blk (by omega) hQ.res)
          have hB4 : Below w.heap.size w w4 := hQ.below.trans (hK.below.mono (by omega))
          have hr0 := blk_cell hR4.out 0
          have hr1 := blk_cell hR4.out 1
          have hr2 := blk_cell hR4.out 2
          have hf0 := blk_frozen hR4.out 0
          have hf1 := blk_frozen hR4.out 1
          have hf2 := blk_frozen hR4.out 2
          have hz := blk_lt hR4.out
          clear hQ HF hlen hk hpre hA hK HL
          go_wp2
          refine bodyPost_ret (results_ct rfl _ _ w.heap.size 29 #[.int .i64 0, .string ⟨#[]⟩, .slice none 0 0] (0, 0) _ rfl (blk_alloc (blk_put (blk_put (blk_put hR4.out 0 _ rfl) 1 _ rfl) 2 _ rfl) _) Tryd.underlying29 rfl (by kernel_rfl)) rfl ?_
          exact ⟨by unfold ProtoAns; rw [HP.out]; rfl, below_alloc (below_set (below_set (below_set hB4 (Nat.le_refl _)) (Nat.le_refl _)) (Nat.le_refl _)) _⟩
        | some x =>
          obtain ⟨t, b⟩ := x
          have hlt := kindL_lt hk
          go_wp2_with fail
          refine (kind_any (w.heap.size + 1) l' w3 (HS.out.below h0 hQ.below) (by omega) hQ.rd (by omega)).mono ?_
          intro e w4 hA
          obtain ⟨rfl, hK, hRd⟩ := hA.yes hk
          have hQ4 := hQ.kp hK hRd
          obtain ⟨A, c, rfl⟩ := Kd.R_slice hQ4.row
          have hp2 := blk_cell hQ4.p 2
          have hz3 := blk_lt hQ4.p
          by_cases h16 : acc.length = 16
          · have HP : Hid (protoL l = none) := by
              refine HL.out none ?_
              have := HF.out
              rw [argsF, if_neg (by simp [hpre]), hk] at this
              simp only [if_pos h16] at this
              exact this.symm
            clear hQ HF hlen hk hpre hA hK HL hRd
            have hr0 := blk_cell hQ4.res 0
            have hr1 := blk_cell hQ4.res 1
            have hr2 := blk_cell hQ4.res 2
            have hf0 := blk_frozen hQ4.res 0
            have hf1 := blk_frozen hQ4.res 1
            have hf2 := blk_frozen hQ4.res 2
            have hz := blk_lt hQ4.res
            have hz2 := blk_lt hQ4.p
            go_wp2
            refine bodyPost_ret (results_ct rfl _ _ w.heap.size 29 #[.int .i64 0, .string ⟨#[]⟩, .slice none 0 0] (0, 0) _ rfl (blk_alloc (hQ4.fin _ _ _).blk _) Tryd.underlying29 rfl (by kernel_rfl)) rfl ?_
            exact ⟨by unfold ProtoAns; rw [HP.out]; rfl, below_alloc (hQ4.fin _ _ _).below _⟩
          · have HF2 : Hid (argsF n b (acc ++ [t]) = argsF (l.length + 1) (l.drop 1) []) := by
              have := HF.out
              rw [argsF, if_neg (by simp [hpre]), hk] at this
              simp only [if_neg h16] at this
              exact this
            have h16' : ((acc.length : Int) == 16) = false := by simp; omega
            have hlen4 := hid (rdLen_of hQ4.rd)
            clear hQ HF hk hpre hA hK HL hRd
            go_wp2_with ((with_reducible refine gate_builtin (b := .append) (xs := #[.tmp 40, .tmp 42]) rfl ?_); at_builtin; refine Kd.R_append kTy (w0 := w) w.heap.size rfl (.tmp 40) (.tmp 42) 27 23 (.agg #[.int .i64 0, .string ⟨#[]⟩]) 24 rfl Tryd.underlying27 infoTy rfl (by decide) (by omega) (.slice A acc.length c) acc t [.int .i64 t.k, .string t.n] (fun _ => True) (fun _ => False) rfl (by first | (go_simp; done) | (go_simp; rfl)) ?aP (fun _ hk => hk.elim) (fun _ _ => trivial) ?aO ?aB ?aS ?aL ?_; (case aP => exact kTy_mkM _ _ _ t); (case aO => exact Kd.R_alloc hQ4.row _); (case aB => exact below_alloc hQ4.below _); (case aS => have := hQ4.below.size; simp; omega); (case aL => omega); intro v1 w5 ho hb5 hg5 hat5; obtain ⟨A5, c5, rfl⟩ := Kd.R_slice ho; have HO5 := hid ho; clear ho; have hp5 := hid (blk_grown (blk_alloc hQ4.p _) hg5 (Kd.R_ne hQ4.row hQ4.p (by decide))); have hr5 := hid (blk_grown (blk_alloc hQ4.res _) hg5 (Kd.R_ne hQ4.row hQ4.res (by decide))); have hd5 := hid (blk_grown (blk_alloc hQ4.rd _) hg5 (Kd.R_ne hQ4.row hQ4.rd (by decide))); clear hQ4 hp2 hat5 hg5; have hp50 := blk_cell hp5.out 2; have hpf5 := blk_frozen hp5.out 2)
            have hQ6 : PS w b (acc ++ [t]) (.slice A5 (acc ++ [t]).length c5) (w5.setCell ⟨w.heap.size + 1 + 1, 2, none⟩ (.slice A5 (acc ++ [t]).length c5)) :=
              ⟨below_set hb5 (by omega), blk_far hr5.out (by show w.heap.size ≠ w.heap.size + 1 + 1; omega) _, blk_far hd5.out (by show w.heap.size + 1 ≠ w.heap.size + 1 + 1; omega) _, blk_put hp5.out 2 _ rfl, Kd.R_mono (Kd.R_far (Kd.R_types HO5.out hp5.out (by decide)) (fun _ hk => hk.2) _) (fun _ _ => trivial)⟩
            have hlen6 := rdLen_of hQ6.rd
            have el : (acc ++ [t]).length = acc.length + 1 := by simp
            rw [el] at hQ6 hlen6
            exact ⟨⟨rfl, b, acc ++ [t], .slice A5 (acc.length + 1) c5, n, hQ6, HF2, by omega, by rw [List.length_append, List.length_singleton]; omega, by omega⟩, by rw [hlen6, hlen.out]; exact hlt⟩

end Go.Proofs.YtcaepnbamnicmaaDoor

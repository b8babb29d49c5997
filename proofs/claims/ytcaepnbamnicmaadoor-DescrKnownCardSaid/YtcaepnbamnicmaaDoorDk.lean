/- descr.WriteProto. -/
import Derived.Test.YtcaepnbamnicmaaDoorDi
import Derived.Test.YtcaepnbamnicmaaDoorDj
namespace Go.Proofs.YtcaepnbamnicmaaDoor
open Go.RowKit Go.Proofs.YtcaepnbamnicmaaDoorW.PrintWords

theorem IsB.below {B b : Nat} {l : List UInt8} {w w' : World} (h : IsB B b l w) (hb : Below w.heap.size w w') : IsB B b l w' := by
  have key : ∀ p, Lib.BuilderAt 66 5 B b p (Lib.byteCells l) w → Lib.BuilderAt 66 5 B b p (Lib.byteCells l) w' := by
    rintro p ⟨h1, v, h2, h3, h4⟩
    exact ⟨h1, v, blk_below h2 hb, pw_own_below h3 hb, h4⟩
  exact h.elim (fun h => .inl (key _ h)) (fun h => .inr (key _ h))
theorem IsB.lt {B b : Nat} {l : List UInt8} {w : World} (h : IsB B b l w) : b < w.heap.size := h.elim (fun h => h.lt) (fun h => h.lt)
theorem IsB.new (B : Nat) (w : World) (hB : B ≤ w.heap.size) : IsB B w.heap.size [] (w.alloc (.cells #[.pointer none, .slice none 0 0] 66)) :=
  .inl ⟨hB, .slice none 0 0, blk_new w _, World.ownsRow_nil _ _ _ _, by simp [Value.ownBlock]⟩

/-- A type's text, as a list. -/
def tyL (t : Ty) : List UInt8 := (tyText t).data.toList
def retL (t : Ty) : List UInt8 := if t.isZero then [86] else tyL t
/-- A proto's text. -/
def protoText (p : Pr) : List UInt8 := 40 :: (p.args.flatMap tyL ++ 41 :: retL p.ret)
theorem tyL_size {t : Ty} (h : tyOk t = true) : (tyL t).length ≤ 67 := by
  unfold tyL
  rw [dataLen]
  unfold tyText
  simp only [ByteArray.size_append]
  have h1 := bef_size (t.k - 1).toNat
  have h2 := aft_size (t.k - 1).toNat
  have h3 := tyOk_size h
  omega
theorem flat_size {l : List Ty} (h : l.all tyOk = true) : (l.flatMap tyL).length ≤ 67 * l.length := by
  induction l with
  | nil => simp
  | cons t l ih =>
    rw [List.all_cons, Bool.and_eq_true] at h
    have h1 := tyL_size h.1
    have h2 := ih h.2
    simp only [List.flatMap_cons, List.length_append, List.length_cons]
    omega
theorem flat_snoc {l : List Ty} {k : Nat} (h : k < l.length) : (l.take (k + 1)).flatMap tyL = (l.take k).flatMap tyL ++ tyL (l.getD k zTy) := by
  rw [List.take_succ_eq_append_getElem h, List.flatMap_append]
  simp [List.getD, h]

set_option maxHeartbeats 1000000 in
theorem writeProto_no (r : Ty) (A : Option Addr) (args : List Ty) (c : Nat) (w : World) (hS : Sg w) (hr : Kd.C kTy w A args.length args) (hne : protoErr ⟨r, args⟩ ≠ 0) :
    Calls Tryd.prog 22 #[.agg #[.int .i64 r.k, .string r.n, .slice A args.length c]] w fun e w' => e = .returned (.tuple #[.string ⟨#[]⟩, .int .i64 (protoErr ⟨r, args⟩)]) ∧ Below w.heap.size w w' := by
  have HS := hid hS
  have HR := hid hr
  have hne1 : (protoErr ⟨r, args⟩ == 0) = false := by simpa using hne
  have hne2 : (protoErr ⟨r, args⟩ != 0) = true := by simpa using hne
  generalize hp : protoErr ⟨r, args⟩ = pe at *
  have HP := hid hp
  clear hS hr hne hp
  go_enter Tryd.func22, Tryd.ntmps22
  go_wp2_with (go_at_call 23; refine (checkProto_any r A args c _ (HS.out.alloc _) (Kd.C_alloc HR.out _)).mono ?_; rintro e w' ⟨rfl, hb⟩; rw [HP.out])
  go_ret2
  exact ⟨rfl, (below_alloc (Below.refl _ _) _).trans (hb.mono (by simp))⟩

set_option maxHeartbeats 2000000 in
theorem writeProto_yes (r : Ty) (A : Option Addr) (args : List Ty) (c : Nat) (w : World) (hS : Sg w) (hr : Kd.C kTy w A args.length args) (h16 : args.length ≤ 16) (hall : args.all tyOk = true) (hret : (r.isZero || tyOk r) = true) :
    Calls Tryd.prog 22 #[.agg #[.int .i64 r.k, .string r.n, .slice A args.length c]] w fun e w' => e = .returned (.tuple #[.string (tx (protoText ⟨r, args⟩)), .int .i64 0]) ∧ Below w.heap.size w w' := by
  have HS := hid hS
  have HR := hid hr
  have HALL := hid hall
  have HP : Hid (protoErr ⟨r, args⟩ = 0) := by
    show protoErr ⟨r, args⟩ = 0
    unfold protoErr
    rw [if_neg (by show ¬ 16 < args.length; omega), if_pos (by show ((r.isZero || tyOk r) && args.all tyOk) = true; rw [hret, hall]; rfl)]
  clear hS hr hall
  go_enter Tryd.func22, Tryd.ntmps22
  go_wp2_with fail
  have hA0 := blk_new w (.cells #[.int .i64 r.k, .string r.n, .slice A args.length c] 29)
  have hb0 := below_alloc (Below.refl w.heap.size w) (.cells #[.int .i64 r.k, .string r.n, .slice A args.length c] 29)
  generalize w.alloc (.cells #[.int .i64 r.k, .string r.n, .slice A args.length c] 29) = W0 at *
  refine (checkProto_any r A args c W0 (HS.out.below HS.out.lt hb0) (Kd.C_below HR.out hb0)).mono ?_
  intro e w1 hh
  obtain ⟨rfl, hb1⟩ := hh
  rw [HP.out]
  have hA1 := hid (blk_below hA0 hb1)
  have hB1 := below_step hb0 hb1
  clear hA0 hb0 hb1 W0
  go_wp2_with fail
  have hI0 := IsB.new w1.heap.size w1 (Nat.le_refl _)
  have hA2 := blk_alloc hA1.out (.cells #[.pointer none, .slice none 0 0] 66)
  have hB2 := below_alloc hB1 (.cells #[.pointer none, .slice none 0 0] 66)
  have hwb : w.heap.size < w1.heap.size := blk_lt hA1.out
  have hs2 : w1.heap.size ≤ (w1.alloc (.cells #[.pointer none, .slice none 0 0] 66)).heap.size := by simp
  generalize hbb : w1.heap.size = bb at *
  generalize w1.alloc (.cells #[.pointer none, .slice none 0 0] 66) = W2 at *
  refine (writeByte_any bb bb [] 40 W2 hI0 (by simp) hs2).mono ?_
  intro e w3 hh
  obtain ⟨rfl, hU, hb3⟩ := hh
  have hB3 := hid (hB2.trans (hb3.mono (by omega)))
  have hA3 := hid ((hb3.block _ hwb).trans hA2)
  have HU := hid hU.is
  have hc0 := blk_cell hA3.out 2
  have hz3 := blk_lt hA3.out
  clear hb3 hB2 hA2 hI0 hU hs2
  go_wp2_with fail
  clear hc0
  go_loopw [22] (fun i wr => ∃ k : Nat, k ≤ args.length ∧ i = .int .i64 k ∧ Below w.heap.size w wr ∧ bb ≤ wr.heap.size ∧ Hid (wr.heap[w.heap.size]? = some (.cells #[.int .i64 r.k, .string r.n, .slice A args.length c] 29 (0, 0))) ∧ Hid (IsB bb bb (40 :: (args.take k).flatMap tyL) wr)) (fun i _ => args.length - (intOf i).toNat)
  case atStart => exact ⟨0, by omega, rfl, hB3.out, by have := HU.out.lt; omega, hA3.out, HU.out⟩
  case round =>
    obtain ⟨k, hk, rfl, hb, hbs, hA, hI⟩ := hrel
    by_cases hlt : k < args.length
    · obtain ⟨ad, rfl, hc0, hc1⟩ := at_Ty (Kd.C_below HR.out hb) k hlt
      have hS1 := hid (HS.out.below HS.out.lt hb)
      have hFS := hid (flat_snoc hlt)
      have hok : tyOk (args.getD k zTy) = true := by
        have := HALL.out
        rw [List.all_eq_true] at this
        have h2 := this _ (List.getElem_mem hlt)
        simpa [List.getD, hlt] using h2
      have hsz := flat_size (l := args.take k) (by
        have := HALL.out
        rw [List.all_eq_true] at this ⊢
        exact fun x hx => this x (List.mem_of_mem_take hx))
      have hln : (args.take k).length ≤ k := List.length_take_le _ _
      generalize args.getD k zTy = t at *
      have htl := tyL_size hok
      have HOK := hid hok
      clear hok
      go_wp2_with fail
      have hb5 := below_alloc hb (.cells #[.int .i64 t.k, .string t.n] 23)
      have hA5 := blk_alloc hA.out (.cells #[.int .i64 t.k, .string t.n] 23)
      have hI5 := hI.out.below (below_alloc (Below.refl _ _) (.cells #[.int .i64 t.k, .string t.n] 23))
      have hbs5 : bb ≤ (wr.alloc (.cells #[.int .i64 t.k, .string t.n] 23)).heap.size := by simp; omega
      generalize wr.alloc (.cells #[.int .i64 t.k, .string t.n] 23) = W5 at *
      refine (writeType_yes t.k t.n W5 (HS.out.below HS.out.lt hb5) HOK.out).mono ?_
      intro e w6 hh
      obtain ⟨rfl, hb6⟩ := hh
      have hB6 := below_step hb5 hb6
      have hA6 := hid (blk_below hA5 hb6)
      have hI6 := hid (hI5.below hb6)
      have hbs6 : bb ≤ w6.heap.size := Nat.le_trans hbs5 hb6.size
      clear hb5 hA5 hI5 hbs5 hb6 hc0 hc1 hb hbs hA hI
      go_wp2_with fail
      refine (writeString_any bb bb _ (tyText t) w6 hI6.out (by have : (tyText t).size = (tyL t).length := (dataLen _).symm; simp only [List.length_cons]; omega) hbs6).mono ?_
      intro e w7 hh
      obtain ⟨rfl, hU7, hb7⟩ := hh
      have hB7 := hB6.trans (hb7.mono (by omega))
      have hA7 := hid ((hb7.block _ hwb).trans hA6.out)
      have hI7 := hid hU7.is
      have hbs7 : bb ≤ w7.heap.size := Nat.le_trans hbs6 hb7.size
      clear hU7 hb7 hB6 hA6 hI6 hbs6
      go_wp2
      go_roundw
      case rel => exact ⟨k + 1, by omega, by go_num, hB7, hbs7, hA7, by have := hI7.out; rw [hFS.out]; exact this⟩
      case measure => simp [intOf]; omega
    · obtain rfl : k = args.length := by omega
      have hI' := hI.out
      rw [List.take_length] at hI'
      have hsz := flat_size HALL.out
      clear hI
      go_wp2_with fail
      refine (writeByte_any bb bb _ 41 wr hI' (by simp only [List.length_cons]; omega) hbs).mono ?_
      intro e w4 hh
      obtain ⟨rfl, hU4, hb4⟩ := hh
      have hB4 := hb.trans (hb4.mono (by omega))
      have hA4 := hid ((hb4.block _ hwb).trans hA.out)
      have hI4 := hid hU4.is
      have hbs4 : bb ≤ w4.heap.size := Nat.le_trans hbs hb4.size
      have hz4 := blk_lt hA4.out
      have hc0 := blk_cell hA4.out 0
      have hc1 := blk_cell hA4.out 1
      clear hU4 hb4 hb hA hI' hbs
      cases hz : r.isZero with
      | true =>
        have hRT : Hid (retL r = [86]) := by show retL r = _; unfold retL; rw [hz]; rfl
        rw [isZero_iff] at hz
        have hk0 : r.k = 0 := by rw [hz]; rfl
        have hn0 : r.n = ⟨#[]⟩ := by rw [hz]; rfl
        rw [hk0] at hc0
        rw [hn0] at hc1
        clear hz hk0 hn0 hret
        go_wp2_with fail
        refine (Tryd.Builder_String_any bb bb _ w4 hI4.out hbs4).mono ?_
        intro e w5 hh
        obtain ⟨he, hb5⟩ := hh
        obtain rfl : e = .returned (.string (tx (40 :: args.flatMap tyL ++ [41]))) := he
        have hB5 := hB4.trans (hb5.mono (by omega))
        have hcat : Hid (tx (40 :: args.flatMap tyL ++ [41]) ++ ⟨#[86]⟩ = tx (protoText ⟨r, args⟩)) := by
          apply Go.WideShapes.bytes_inj
          rw [ByteArray.data_append, Array.toList_append, tx_toList, tx_toList]
          simp [protoText, hRT.out]
        have hls : (tx (40 :: args.flatMap tyL ++ [41])).size ≤ 2000 := by rw [tx_size]; simp only [List.length_append, List.length_cons, List.length_nil]; omega
        generalize tx (40 :: args.flatMap tyL ++ [41]) = sb at *
        go_wp2
        go_ret2
        exact ⟨by rw [← hcat.out]; rfl, hB5⟩
      | false =>
        have hok : tyOk r = true := by rw [hz] at hret; simpa using hret
        have hk1 : (r.k == 0) = false := by have := tyOk_range hok; simp; omega
        have HOK := hid hok
        have hRT : Hid (retL r = tyL r) := by show retL r = _; unfold retL; rw [hz]; rfl
        have htl := tyL_size hok
        clear hok hz hret
        go_wp2_with fail
        refine (writeType_yes r.k r.n w4 (HS.out.below HS.out.lt hB4) HOK.out).mono ?_
        intro e w5 hh
        obtain ⟨he, hb5⟩ := hh
        obtain rfl : e = .returned (.tuple #[.string (tyText r), .int .i64 0]) := he
        have hB5 := below_step hB4 hb5
        have hI5 := hid (hI4.out.below hb5)
        have hbs5 : bb ≤ w5.heap.size := Nat.le_trans hbs4 hb5.size
        clear hb5 hB4 hI4 hbs4 hc0 hc1 hz4
        go_wp2_with fail
        refine (Tryd.Builder_String_any bb bb _ w5 hI5.out hbs5).mono ?_
        intro e w6 hh
        obtain ⟨he, hb6⟩ := hh
        obtain rfl : e = .returned (.string (tx (40 :: args.flatMap tyL ++ [41]))) := he
        have hB6 := hB5.trans (hb6.mono (by omega))
        have hcat : Hid (tx (40 :: args.flatMap tyL ++ [41]) ++ tyText r = tx (protoText ⟨r, args⟩)) := by
          apply Go.WideShapes.bytes_inj
          rw [ByteArray.data_append, Array.toList_append, tx_toList, tx_toList]
          simp [protoText, hRT.out, tyL]
        have hls : (tx (40 :: args.flatMap tyL ++ [41])).size ≤ 2000 := by rw [tx_size]; simp only [List.length_append, List.length_cons, List.length_nil]; omega
        have htl2 : (tyText r).size ≤ 67 := by have : (tyText r).size = (tyL r).length := (dataLen _).symm; omega
        generalize tx (40 :: args.flatMap tyL ++ [41]) = sb at *
        go_wp2
        go_ret2
        exact ⟨by rw [← hcat.out]; rfl, hB6⟩

end Go.Proofs.YtcaepnbamnicmaaDoor

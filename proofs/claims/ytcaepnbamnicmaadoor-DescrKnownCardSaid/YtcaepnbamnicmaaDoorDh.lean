/- descr.CheckProto, ArgWords. -/
import Derived.Test.YtcaepnbamnicmaaDoorDg
namespace Go.Proofs.YtcaepnbamnicmaaDoor
open Go.RowKit Go.Proofs.YtcaepnbamnicmaaDoorW.PrintWords

/-- A proto. -/
structure Pr where
  ret : Ty
  args : List Ty
def zTy : Ty := ⟨0, ⟨#[]⟩⟩
def kTy : Kd Ty := Kd.iso (Kd.pair (Kd.int .i64) Kd.string) (fun t => (t.k, t.n))
theorem kTy_open {w : World} {x : Ty} {cs : List Value} (h : kTy.K w x cs) : cs = [.int .i64 x.k, .string x.n] := by
  obtain ⟨_, _, rfl, rfl, rfl⟩ := h
  exact rfl
theorem kTy_mk (w : World) (x : Ty) : kTy.K w x [.int .i64 x.k, .string x.n] := ⟨[.int .i64 x.k], [.string x.n], rfl, rfl, rfl⟩
theorem kTy_mkM (w : World) (base : Nat) (ok : Nat → Prop) (x : Ty) : kTy.M w base ok x [.int .i64 x.k, .string x.n] := ⟨[.int .i64 x.k], [.string x.n], rfl, rfl, rfl⟩
theorem at_Ty {w : World} {A : Option Addr} {n : Nat} {xs : List Ty} (h : Kd.C kTy w A n xs) (i : Nat) (h1 : i < n) : ∃ ad, A = some ad ∧ w.cell? (ad.add (i * 2)) = some (.int .i64 (xs.getD i zTy).k) ∧ w.cell? ⟨(ad.add (i * 2)).block, (ad.add (i * 2)).off + 1, none⟩ = some (.string (xs.getD i zTy).n) := by
  obtain ⟨ad, c, e, _, hK, hc0⟩ := Kd.C_get h zTy i (by omega) (by omega)
  have hc : ∀ j u, c[j]? = some u → w.cell? (ad.add (i * 2 + j)) = some u := hc0
  obtain rfl := kTy_open hK
  exact ⟨ad, e, hc 0 _ rfl, by rw [← add_field _ _ 1 (by omega)]; exact hc 1 _ rfl⟩

def wordsSum (l : List Ty) : Int := (l.map fun t => wordsOf t.k).sum
theorem wordsOf_range (k : Int) : 0 ≤ wordsOf k ∧ wordsOf k ≤ 2 := by
  unfold wordsOf
  split
  · omega
  · split <;> omega
theorem wordsSum_range (l : List Ty) : 0 ≤ wordsSum l ∧ wordsSum l ≤ 2 * l.length := by
  induction l with
  | nil => simp [wordsSum]
  | cons t l ih =>
    have := wordsOf_range t.k
    simp only [wordsSum, List.map_cons, List.sum_cons, List.length_cons] at *
    omega
theorem wordsSum_snoc {l : List Ty} {k : Nat} (h : k < l.length) : wordsSum (l.take (k + 1)) = wordsSum (l.take k) + wordsOf (l.getD k zTy).k := by
  unfold wordsSum
  rw [List.take_succ_eq_append_getElem h, List.map_append, List.sum_append]
  simp [List.getD, h]

set_option maxHeartbeats 1000000 in
theorem argWords_any (r : Ty) (A : Option Addr) (args : List Ty) (c : Nat) (w : World) (hS : Sg w) (hr : Kd.C kTy w A args.length args) (hm : args.length ≤ 4611686018427387903) :
    Calls Tryd.prog 27 #[.agg #[.int .i64 r.k, .string r.n, .slice A args.length c]] w fun e w' => e = .returned (.int .i64 (wordsSum args)) ∧ Below w.heap.size w w' := by
  have HS := hid hS
  have HR := hid hr
  clear hS hr
  go_enter Tryd.func27, Tryd.ntmps27
  go_wp2
  go_loopw [3, 9] (fun s i wr => ∃ k : Nat, k ≤ args.length ∧ i = .int .i64 k ∧ s = .int .i64 (wordsSum (args.take k)) ∧ Below w.heap.size w wr) (fun _ i _ => args.length - (intOf i).toNat)
  case atStart => exact ⟨0, by omega, rfl, rfl, (Below.refl _ _).alloc (Nat.le_refl _) _⟩
  case round =>
    obtain ⟨k, hk, rfl, rfl, hb⟩ := hrel
    have hs1 := wordsSum_range (args.take k)
    have hs2 : (args.take k).length ≤ k := List.length_take_le _ _
    by_cases hlt : k < args.length
    · obtain ⟨ad, rfl, hc0, hc1⟩ := at_Ty (Kd.C_below HR.out hb) k hlt
      have hS1 := hid (HS.out.below HS.out.lt hb)
      have HSUM := hid (wordsSum_snoc hlt)
      have hw1 := wordsOf_range (args.getD k zTy).k
      generalize args.getD k zTy = t at *
      go_wp2_with (go_at_call 37; refine (words_any _ _ _ (hS1.out.alloc _)).mono ?_; rintro e w' ⟨rfl, hb2⟩)
      go_roundw
      case rel => exact ⟨k + 1, by omega, by go_num, by rw [HSUM.out], (below_alloc hb _).trans (hb2.mono (by have := hb.size; simp; omega))⟩
      case measure => simp [intOf]; omega
    · go_wp2
      go_ret
      have : k = args.length := by omega
      subst this
      exact ⟨by rw [List.take_length]; rfl, hb⟩

def Ty.isZero (t : Ty) : Bool := decide (t.k = 0) && decide (t.n.size = 0)
/-- What CheckProto answers. -/
def protoErr (p : Pr) : Int := if 16 < p.args.length then 5 else if (p.ret.isZero || tyOk p.ret) && p.args.all tyOk then 0 else 2

theorem all_take_snoc {l : List Ty} {k : Nat} (h : k < l.length) (h1 : (l.take k).all tyOk = true) (h2 : tyOk (l.getD k zTy) = true) : (l.take (k + 1)).all tyOk = true := by
  rw [List.take_succ_eq_append_getElem h, List.all_append, h1]
  simpa [List.getD, h] using h2
theorem not_all_at {l : List Ty} {k : Nat} (h : k < l.length) (h2 : tyOk (l.getD k zTy) = false) : l.all tyOk = false := by
  cases e : l.all tyOk with
  | false => rfl
  | true =>
    rw [List.all_eq_true] at e
    have := e _ (List.getElem_mem h)
    simp [List.getD, h] at h2
    rw [this] at h2
    cases h2

theorem nameEmpty {s : ByteArray} (h : s.size = 0) : s = ⟨#[]⟩ := by
  cases s with
  | mk d => simp only [ByteArray.size] at h; rw [Array.eq_empty_of_size_eq_zero h]
theorem isZero_iff (r : Ty) : r.isZero = true ↔ r = zTy := by
  obtain ⟨k, n⟩ := r
  unfold Ty.isZero zTy
  simp only [Bool.and_eq_true, decide_eq_true_eq, Ty.mk.injEq]
  exact ⟨fun ⟨a, b⟩ => ⟨a, nameEmpty b⟩, fun ⟨a, b⟩ => ⟨a, by rw [b]; rfl⟩⟩

theorem tyOk_zero (n : ByteArray) : tyOk ⟨0, n⟩ = false := rfl
/-- Of a proto whose Ret may be, or is none. -/
def restErr (b : Bool) : Int := if b then 0 else 2

set_option maxHeartbeats 1000000 in
theorem checkProto_void (A : Option Addr) (args : List Ty) (c : Nat) (w : World) (hS : Sg w) (hr : Kd.C kTy w A args.length args) (h16 : args.length ≤ 16) :
    Calls Tryd.prog 23 #[.agg #[.int .i64 0, .string ⟨#[]⟩, .slice A args.length c]] w fun e w' => e = .returned (.int .i64 (restErr (args.all tyOk))) ∧ Below w.heap.size w w' := by
  have HS := hid hS
  have HR := hid hr
  have HP : Hid (restErr (args.all tyOk) = if args.all tyOk then 0 else 2) := rfl
  clear hS hr
  go_enter Tryd.func23, Tryd.ntmps23
  go_wp2
  have HB0 : Below w.heap.size w (w.alloc (.cells #[.int .i64 0, .string ⟨#[]⟩, .slice A args.length c] 29)) := (Below.refl _ _).alloc (Nat.le_refl _) _
  go_loopw [2, 23] (fun s i wr => s = .int .i64 0 ∧ ∃ k : Nat, k ≤ args.length ∧ i = .int .i64 k ∧ Hid ((args.take k).all tyOk = true) ∧ Below w.heap.size w wr) (fun _ i _ => args.length - (intOf i).toNat)
  case atStart => exact ⟨rfl, 0, by omega, rfl, by simp [Hid], HB0⟩
  case round =>
    obtain ⟨rfl, k, hk, rfl, HALL, hb⟩ := hrel
    by_cases hlt : k < args.length
    · obtain ⟨ad, rfl, hc0, hc1⟩ := at_Ty (Kd.C_below HR.out hb) k hlt
      have hS1 := hid (HS.out.below HS.out.lt hb)
      have HYES := hid (fun h2 => all_take_snoc hlt HALL.out h2)
      have HNOT := hid (fun h2 => not_all_at hlt h2)
      generalize args.getD k zTy = t at *
      cases ht : tyOk t with
      | true =>
        have HT := hid ht
        clear ht
        go_wp2_with (go_at_call 21; refine (checkType_any t _ (hS1.out.alloc _)).mono ?_; rintro e w' ⟨rfl, hb2⟩; rw [HT.out, show errOf true = 0 from rfl])
        go_roundw
        case rel => exact ⟨rfl, k + 1, by omega, by go_num, HYES.out HT.out, (below_alloc hb _).trans (hb2.mono (by have := hb.size; simp; omega))⟩
        case measure => simp [intOf]; omega
      | false =>
        have HT := hid ht
        clear ht
        go_wp2_with (go_at_call 21; refine (checkType_any t _ (hS1.out.alloc _)).mono ?_; rintro e w' ⟨rfl, hb2⟩; rw [HT.out, show errOf false = 2 from rfl])
        go_ret
        exact ⟨by rw [HP.out, HNOT.out HT.out]; rfl, (below_alloc hb _).trans (hb2.mono (by have := hb.size; simp; omega))⟩
    · go_wp2
      go_ret
      have : k = args.length := by omega
      subst this
      have h2 := HALL.out
      rw [List.take_length] at h2
      exact ⟨by rw [HP.out, h2]; rfl, hb⟩

set_option maxHeartbeats 1000000 in
theorem checkProto_ret (r : Ty) (A : Option Addr) (args : List Ty) (c : Nat) (w : World) (hS : Sg w) (hr : Kd.C kTy w A args.length args) (h16 : args.length ≤ 16) (hok : tyOk r = true) :
    Calls Tryd.prog 23 #[.agg #[.int .i64 r.k, .string r.n, .slice A args.length c]] w fun e w' => e = .returned (.int .i64 (restErr (args.all tyOk))) ∧ Below w.heap.size w w' := by
  have HS := hid hS
  have HR := hid hr
  have HP : Hid (restErr (args.all tyOk) = if args.all tyOk then 0 else 2) := rfl
  have hk := tyOk_range hok
  have hk1 : (r.k == 0) = false := by simp; omega
  have HOK := hid hok
  clear hS hr hk hok
  go_enter Tryd.func23, Tryd.ntmps23
  go_wp2_with (go_at_call 21; refine (checkType_any r _ (HS.out.alloc _)).mono ?_; rintro e w' ⟨rfl, hb0⟩; rw [HOK.out, show errOf true = 0 from rfl]; have HB0 : Below w.heap.size w w' := ((Below.refl _ _).alloc (Nat.le_refl _) _).trans (hb0.mono (by simp)); have hl0 := cell_later' (a := ⟨w.heap.size, 2, none⟩) (v := .slice A args.length c) hb0 (by simp); clear hb0)
  clear hl0
  go_loopw [2, 23] (fun s i wr => s = .int .i64 0 ∧ ∃ k : Nat, k ≤ args.length ∧ i = .int .i64 k ∧ Hid ((args.take k).all tyOk = true) ∧ Below w.heap.size w wr) (fun _ i _ => args.length - (intOf i).toNat)
  case atStart => exact ⟨rfl, 0, by omega, rfl, by simp [Hid], HB0⟩
  case round =>
    obtain ⟨rfl, k, hk, rfl, HALL, hb⟩ := hrel
    by_cases hlt : k < args.length
    · obtain ⟨ad, rfl, hc0, hc1⟩ := at_Ty (Kd.C_below HR.out hb) k hlt
      have hS1 := hid (HS.out.below HS.out.lt hb)
      have HYES := hid (fun h2 => all_take_snoc hlt HALL.out h2)
      have HNOT := hid (fun h2 => not_all_at hlt h2)
      generalize args.getD k zTy = t at *
      cases ht : tyOk t with
      | true =>
        have HT := hid ht
        clear ht
        go_wp2_with (go_at_call 21; refine (checkType_any t _ (hS1.out.alloc _)).mono ?_; rintro e w' ⟨rfl, hb2⟩; rw [HT.out, show errOf true = 0 from rfl])
        go_roundw
        case rel => exact ⟨rfl, k + 1, by omega, by go_num, HYES.out HT.out, (below_alloc hb _).trans (hb2.mono (by have := hb.size; simp; omega))⟩
        case measure => simp [intOf]; omega
      | false =>
        have HT := hid ht
        clear ht
        go_wp2_with (go_at_call 21; refine (checkType_any t _ (hS1.out.alloc _)).mono ?_; rintro e w' ⟨rfl, hb2⟩; rw [HT.out, show errOf false = 2 from rfl])
        go_ret
        exact ⟨by rw [HP.out, HNOT.out HT.out]; rfl, (below_alloc hb _).trans (hb2.mono (by have := hb.size; simp; omega))⟩
    · go_wp2
      go_ret
      have : k = args.length := by omega
      subst this
      have h2 := HALL.out
      rw [List.take_length] at h2
      exact ⟨by rw [HP.out, h2]; rfl, hb⟩

set_option maxHeartbeats 1000000 in
theorem checkProto_bad (r : Ty) (A : Option Addr) (args : List Ty) (c : Nat) (w : World) (hS : Sg w) (h16 : args.length ≤ 16) (hz : r.isZero = false) (hok : tyOk r = false) :
    Calls Tryd.prog 23 #[.agg #[.int .i64 r.k, .string r.n, .slice A args.length c]] w fun e w' => e = .returned (.int .i64 2) ∧ Below w.heap.size w w' := by
  have HS := hid hS
  obtain ⟨k, n⟩ := r
  by_cases hk : k = 0
  · subst hk
    have hn : n.toList.isEmpty = false := by
      rw [isEmpty_iff]
      simpa [Ty.isZero] using hz
    clear hS hok hz
    go_enter Tryd.func23, Tryd.ntmps23
    go_wp2_with (go_at_call 21; refine (checkType_any ⟨0, n⟩ _ (HS.out.alloc _)).mono ?_; rintro e w' ⟨rfl, hb0⟩; rw [tyOk_zero, show errOf false = 2 from rfl])
    go_ret
    exact ⟨rfl, ((Below.refl _ _).alloc (Nat.le_refl _) _).trans (hb0.mono (by simp))⟩
  · have hk1 : (k == 0) = false := by simpa using hk
    have HOK := hid hok
    clear hS hok hz hk
    go_enter Tryd.func23, Tryd.ntmps23
    go_wp2_with (go_at_call 21; refine (checkType_any ⟨k, n⟩ _ (HS.out.alloc _)).mono ?_; rintro e w' ⟨rfl, hb0⟩; rw [HOK.out, show errOf false = 2 from rfl])
    go_ret
    exact ⟨rfl, ((Below.refl _ _).alloc (Nat.le_refl _) _).trans (hb0.mono (by simp))⟩

set_option maxHeartbeats 1000000 in
theorem checkProto_any (r : Ty) (A : Option Addr) (args : List Ty) (c : Nat) (w : World) (hS : Sg w) (hr : Kd.C kTy w A args.length args) :
    Calls Tryd.prog 23 #[.agg #[.int .i64 r.k, .string r.n, .slice A args.length c]] w fun e w' => e = .returned (.int .i64 (protoErr ⟨r, args⟩)) ∧ Below w.heap.size w w' := by
  by_cases h16 : 16 < args.length
  · have HP : Hid (protoErr ⟨r, args⟩ = 5) := if_pos h16
    clear hr hS
    go_enter Tryd.func23, Tryd.ntmps23
    go_wp2
    go_ret
    exact ⟨by rw [HP.out]; rfl, (Below.refl _ _).alloc (Nat.le_refl _) _⟩
  · have HP : protoErr ⟨r, args⟩ = if (r.isZero || tyOk r) && args.all tyOk then 0 else 2 := if_neg h16
    rw [HP]
    cases hz : r.isZero with
    | true =>
      rw [Bool.true_or, Bool.true_and]
      rw [isZero_iff] at hz
      subst hz
      exact checkProto_void A args c w hS hr (by omega)
    | false =>
      rw [Bool.false_or]
      cases hok : tyOk r with
      | true => rw [Bool.true_and]; exact checkProto_ret r A args c w hS hr (by omega) hok
      | false => exact checkProto_bad r A args c w hS (by omega) hz hok

end Go.Proofs.YtcaepnbamnicmaaDoor

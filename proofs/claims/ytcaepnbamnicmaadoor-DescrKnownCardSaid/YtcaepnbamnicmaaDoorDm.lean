/- descr.Elem, Over, SameProto. -/
import Derived.Test.YtcaepnbamnicmaaDoorDl
namespace Go.Proofs.YtcaepnbamnicmaaDoor
open Go.RowKit Go.Proofs.YtcaepnbamnicmaaDoorW.PrintWords

def tyEq (a b : Ty) : Bool := (a.k == b.k) && (a.n.toList == b.n.toList)
theorem toList_inj {a b : ByteArray} (h : a.toList = b.toList) : a = b := by
  rw [ByteArray.toList_eq, ByteArray.toList_eq] at h
  exact Go.WideShapes.bytes_inj h
theorem tyEq_iff (a b : Ty) : tyEq a b = true ↔ a = b := by
  obtain ⟨k, n⟩ := a
  obtain ⟨k', n'⟩ := b
  unfold tyEq
  simp only [Bool.and_eq_true, beq_iff_eq, Ty.mk.injEq]
  exact ⟨fun h => ⟨h.1, toList_inj h.2⟩, fun h => ⟨h.1, by rw [h.2]⟩⟩
theorem tyEq_self (a : Ty) : tyEq a a = true := (tyEq_iff a a).2 rfl
def tysEq : List Ty → List Ty → Bool
  | [], [] => true
  | a :: l, b :: m => tyEq a b && tysEq l m
  | _, _ => false
theorem tysEq_iff (l m : List Ty) : tysEq l m = true ↔ l = m := by
  induction l generalizing m with
  | nil => cases m <;> simp [tysEq]
  | cons a l ih => cases m with
    | nil => simp [tysEq]
    | cons b m => simp [tysEq, tyEq_iff, ih]
theorem tysEq_no {l m : List Ty} (h : l ≠ m) : tysEq l m = false := by
  cases e : tysEq l m with
  | false => rfl
  | true => exact absurd ((tysEq_iff l m).1 e) h
theorem take_step {l m : List Ty} {k : Nat} (h1 : k < l.length) (h2 : k < m.length) (h : l.take k = m.take k) (e : l.getD k zTy = m.getD k zTy) : l.take (k + 1) = m.take (k + 1) := by
  rw [List.take_succ_eq_append_getElem h1, List.take_succ_eq_append_getElem h2, h]
  simp only [List.getD, List.getElem?_eq_getElem h1, List.getElem?_eq_getElem h2, Option.getD_some] at e
  rw [e]

theorem elem_no (k : Int) (n : ByteArray) (w : World) (hk : k < 4 ∨ 6 < k) :
    Calls Tryd.prog 32 #[.agg #[.int .i64 k, .string n]] w fun e w' => e = .returned (.tuple #[.agg #[.int .i64 0, .string ⟨#[]⟩], .bool false]) ∧ Below w.heap.size w w' := by
  go_enter Tryd.func32, Tryd.ntmps32
  go_wp2
  all_goals
    refine bodyPost_ret (results_ct rfl _ _ (w.heap.size + 1) 23 #[.int .i64 0, .string ⟨#[]⟩] (0, 0) _ rfl (size_alloc w (.cells #[.int .i64 k, .string n] 23) ▸ blk_new (w.alloc (.cells #[.int .i64 k, .string n] 23)) _) Tryd.underlying23 rfl (by kernel_rfl)) rfl ?_
    exact ⟨rfl, below_alloc (below_alloc (Below.refl _ _) _) _⟩
theorem elem_yes (k : Int) (n : ByteArray) (w : World) (h1 : 4 ≤ k) (h2 : k ≤ 6) :
    Calls Tryd.prog 32 #[.agg #[.int .i64 k, .string n]] w fun e w' => e = .returned (.tuple #[.agg #[.int .i64 (k - 3), .string n], .bool true]) ∧ Below w.heap.size w w' := by
  go_enter Tryd.func32, Tryd.ntmps32
  go_wp2
  refine bodyPost_ret (results_ct rfl _ _ (w.heap.size + 1) 23 #[.int .i64 (k - 3), .string n] (0, 0) _ rfl (size_alloc w (.cells #[.int .i64 (k - 3), .string n] 23) ▸ blk_new (w.alloc (.cells #[.int .i64 (k - 3), .string n] 23)) _) Tryd.underlying23 rfl (by kernel_rfl)) rfl ?_
  exact ⟨rfl, below_alloc (below_alloc (Below.refl _ _) _) _⟩
theorem over_yes (k : Int) (n : ByteArray) (w : World) (h1 : 1 ≤ k) (h2 : k ≤ 3) :
    Calls Tryd.prog 34 #[.agg #[.int .i64 k, .string n]] w fun e w' => e = .returned (.tuple #[.agg #[.int .i64 (k + 3), .string n], .bool true]) ∧ Below w.heap.size w w' := by
  go_enter Tryd.func34, Tryd.ntmps34
  go_wp2
  refine bodyPost_ret (results_ct rfl _ _ (w.heap.size + 1) 23 #[.int .i64 (k + 3), .string n] (0, 0) _ rfl (size_alloc w (.cells #[.int .i64 (k + 3), .string n] 23) ▸ blk_new (w.alloc (.cells #[.int .i64 (k + 3), .string n] 23)) _) Tryd.underlying23 rfl (by kernel_rfl)) rfl ?_
  exact ⟨rfl, below_alloc (below_alloc (Below.refl _ _) _) _⟩
theorem over_no (k : Int) (n : ByteArray) (w : World) (hk : k < 1 ∨ 3 < k) :
    Calls Tryd.prog 34 #[.agg #[.int .i64 k, .string n]] w fun e w' => e = .returned (.tuple #[.agg #[.int .i64 0, .string ⟨#[]⟩], .bool false]) ∧ Below w.heap.size w w' := by
  go_enter Tryd.func34, Tryd.ntmps34
  go_wp2
  all_goals
    refine bodyPost_ret (results_ct rfl _ _ (w.heap.size + 1) 23 #[.int .i64 0, .string ⟨#[]⟩] (0, 0) _ rfl (size_alloc w (.cells #[.int .i64 k, .string n] 23) ▸ blk_new (w.alloc (.cells #[.int .i64 k, .string n] 23)) _) Tryd.underlying23 rfl (by kernel_rfl)) rfl ?_
    exact ⟨rfl, below_alloc (below_alloc (Below.refl _ _) _) _⟩

theorem equal_any (A B : Option Addr) (xs ys : List Ty) (c d : Nat) (w : World) (hx : Kd.C kTy w A xs.length xs) (hy : Kd.C kTy w B ys.length ys) :
    Calls Tryd.prog 54 #[.slice A xs.length c, .slice B ys.length d] w fun e w' => e = .returned (.bool (tysEq xs ys)) ∧ Below w.heap.size w w' := by
  have HX := hid hx
  have HY := hid hy
  have hm := hx.2.1
  by_cases hl : xs.length = ys.length
  · clear hx hy
    go_enter Tryd.func54, Tryd.ntmps54
    go_wp2
    go_loopw [13] (fun i wr => ∃ k : Nat, k ≤ xs.length ∧ i = .int .i64 k ∧ Hid (xs.take k = ys.take k) ∧ Below w.heap.size w wr) (fun i _ => xs.length - (intOf i).toNat)
    case atStart => exact ⟨0, by omega, rfl, rfl, Below.refl _ _⟩
    case round =>
      obtain ⟨k, hk, rfl, hE, hb⟩ := hrel
      by_cases hlt : k < xs.length
      · obtain ⟨ad, rfl, hc0, hc1⟩ := at_Ty (Kd.C_below HX.out hb) k hlt
        obtain ⟨bd, rfl, hd0, hd1⟩ := at_Ty (Kd.C_below HY.out hb) k (by omega)
        have HG : Hid (xs.getD k zTy = ys.getD k zTy → xs.take (k + 1) = ys.take (k + 1)) := take_step hlt (by omega) hE.out
        have HN : Hid (xs.getD k zTy ≠ ys.getD k zTy → tysEq xs ys = false) := fun h => tysEq_no (fun e => h (by rw [e]))
        generalize xs.getD k zTy = t at *
        generalize ys.getD k zTy = u at *
        have hk1 : ((k : Int) + 1).toNat = k + 1 := by omega
        cases e1 : (t.k == u.k) with
        | false =>
          have hn : tysEq xs ys = false := HN.out (fun e => by rw [e] at e1; simp at e1)
          have HN2 := hid hn
          clear hn
          go_wp2_with fail
          go_quiet (fail)
          go_wp2
          go_ret
          exact ⟨by rw [HN2.out]; rfl, below_drewN' hb nq⟩
        | true =>
          cases e2 : (t.n.toList == u.n.toList) with
          | false =>
            have hn : tysEq xs ys = false := HN.out (fun e => by rw [e] at e2; simp at e2)
            have HN2 := hid hn
            clear hn
            go_wp2_with fail
            go_quiet (fail)
            go_wp2
            go_ret
            exact ⟨by rw [HN2.out]; rfl, below_drewN' hb nq⟩
          | true =>
            have he : t = u := (tyEq_iff t u).1 (by unfold tyEq; rw [e1, e2]; rfl)
            have HG2 := hid (HG.out he)
            clear he
            go_wp2_with fail
            go_quiet (fail)
            go_wp2
            go_roundw
            case rel => exact ⟨k + 1, by omega, by go_num, HG2, below_drewN' hb nq⟩
            case measure => simp [intOf]; omega
      · go_wp2
        go_ret
        have : k = xs.length := by omega
        subst this
        have e := hE.out
        rw [List.take_length, hl, List.take_length] at e
        exact ⟨by rw [(tysEq_iff xs ys).2 e]; rfl, hb⟩
  · have HL : Hid (tysEq xs ys = false) := tysEq_no (fun e => hl (by rw [e]))
    have hl2 : ((xs.length : Int) == (ys.length : Int)) = false := by simp only [beq_eq_false_iff_ne, ne_eq]; omega
    clear hx hy
    go_enter Tryd.func54, Tryd.ntmps54
    go_wp2
    go_ret
    exact ⟨by rw [HL.out]; rfl, Below.refl _ _⟩

theorem sameProto_any (r q : Ty) (A B : Option Addr) (xs ys : List Ty) (c d : Nat) (w : World) (hx : Kd.C kTy w A xs.length xs) (hy : Kd.C kTy w B ys.length ys) :
    Calls Tryd.prog 29 #[.agg #[.int .i64 r.k, .string r.n, .slice A xs.length c], .agg #[.int .i64 q.k, .string q.n, .slice B ys.length d]] w fun e w' => e = .returned (.bool (tyEq r q && tysEq xs ys)) ∧ Below w.heap.size w w' := by
  have HX := hid hx
  have HY := hid hy
  clear hx hy
  have HE : Hid (tyEq r q = ((r.k == q.k) && (r.n.toList == q.n.toList))) := rfl
  cases e1 : (r.k == q.k) with
  | false =>
    go_enter Tryd.func29, Tryd.ntmps29
    go_wp2
    go_ret
    exact ⟨by rw [HE.out, e1]; rfl, below_alloc (below_alloc (Below.refl _ _) _) _⟩
  | true =>
    cases e2 : (r.n.toList == q.n.toList) with
    | false =>
      go_enter Tryd.func29, Tryd.ntmps29
      go_wp2
      go_ret
      exact ⟨by rw [HE.out, e1, e2]; rfl, below_alloc (below_alloc (Below.refl _ _) _) _⟩
    | true =>
      go_enter Tryd.func29, Tryd.ntmps29
      go_wp2_with fail
      refine (equal_any A B xs ys c d _ (Kd.C_alloc (Kd.C_alloc HX.out _) _) (Kd.C_alloc (Kd.C_alloc HY.out _) _)).mono ?_
      rintro e w1 ⟨rfl, hb⟩
      have hB := below_step (below_alloc (below_alloc (Below.refl w.heap.size w) _) _) hb
      go_wp2
      go_ret
      exact ⟨by rw [HE.out, e1, e2]; rfl, hB⟩
end Go.Proofs.YtcaepnbamnicmaaDoor

/- The package word: Fits, Of. Printed by mkof.py. -/
import Derived.Test.YtbogcknkkbnfnaaDoorU1
namespace Go.Proofs.YtbogcknkkbnfnaaDoor
open Go.RowKit Go.Proofs.YtbogcknkkbnfnaaDoorW.PrintWords Go.Maps Go.WideMaps

/-- Does a word fit a type? -/
def fitsW (L : List Cl) (x : Wd) (tk : Int) (tn : ByteArray) : Bool :=
  if tk = 1 ∧ tn = ⟨#[]⟩ then decide (x.k = 1) && (decide (x.tk = 0) && nmEq x.tn ⟨#[]⟩)
  else if tk = 2 ∧ tn = ⟨#[]⟩ then decide (x.k = 2) && (decide (x.tk = 0) && nmEq x.tn ⟨#[]⟩)
  else if mayRefT L tk tn = false then false
  else (decide (x.k = 4) && (decide (x.tk = 0) && nmEq x.tn ⟨#[]⟩)) || (decide (x.k = 5) && belT L x.tk x.tn tk tn)
theorem eqB (a b : Int) : (a == b) = decide (a = b) := by rw [Bool.eq_iff_iff]; simp
section
variable {B p : Nat} {L : List Cl} {w : World}
set_option maxRecDepth 100000 in
set_option maxHeartbeats 0 in
theorem fits_any (h : IsSet B p L w) (x : Wd) (tk : Int) (tn : ByteArray) (hA : x.tn.size ≤ 9223372036854775807) (hB : tn.size ≤ 9223372036854775807) : Calls Tryd.prog 14 #[.pointer (some ⟨p, 0, none⟩), .agg #[.int .i64 x.k, .int .i64 x.tk, .string x.tn], .agg #[.int .i64 tk, .string tn]] w fun e w' => e = .returned (.bool (fitsW L x tk tn)) ∧ Below w.heap.size w w' := by
  obtain ⟨xk, xt, xn⟩ := x
  have HB2 := hid (below_alloc (below_alloc (Below.refl w.heap.size w) (.cells #[.int .i64 xk, .int .i64 xt, .string xn] 35)) (.cells #[.int .i64 tk, .string tn] 24))
  have k1 := blk_alloc (blk_new w (.cells #[.int .i64 xk, .int .i64 xt, .string xn] 35)) (.cells #[.int .i64 tk, .string tn] 24)
  have k2 := blk_new (w.alloc (.cells #[.int .i64 xk, .int .i64 xt, .string xn] 35)) (.cells #[.int .i64 tk, .string tn] 24)
  simp only [World.size_alloc] at k2
  have K1 := hid k1
  have K2 := hid k2
  have HS := hid (h.step HB2.out)
  obtain ⟨w3, hw3⟩ : ∃ X, (w.alloc (.cells #[.int .i64 xk, .int .i64 xt, .string xn] 35)).alloc (.cells #[.int .i64 tk, .string tn] 24) = X := ⟨_, rfl⟩
  have HW3 := hid hw3
  rw [hw3] at HB2 K1 K2 HS
  obtain ⟨mr, hmr⟩ : ∃ x, mayRefT L tk tn = x := ⟨_, rfl⟩
  have HMR := hid (show Calls Tryd.prog 52 #[.pointer (some ⟨p, 0, none⟩), .agg #[.int .i64 tk, .string tn]] w3 fun e w' => e = .returned (.bool mr) ∧ Below w3.heap.size w3 w' from by
    have := mayRef_any HS.out tk tn hB
    rw [hmr] at this
    exact this)
  obtain ⟨bl, hbl⟩ : ∃ x, belT L xt xn tk tn = x := ⟨_, rfl⟩
  have HBL := hid (fun (W : World) (hW : Below w3.heap.size w3 W) => (show Calls Tryd.prog 15 #[.pointer (some ⟨p, 0, none⟩), .agg #[.int .i64 xt, .string xn], .agg #[.int .i64 tk, .string tn]] W fun e w' => e = .returned (.bool bl) ∧ Below W.heap.size W w' from by
    have := sBelT_any (HS.out.step hW) xt xn tk tn hA hB
    rw [hbl] at this
    exact this))
  have t1 := eqB tk 1
  have t2 := eqB tk 2
  have te := nm_nil tn
  have x1 := eqB xk 1
  have x2 := eqB xk 2
  have x4 := eqB xk 4
  have x5 := eqB xk 5
  have xz := eqB xt 0
  have xe := nm_nil xn
  have HMV := hid hmr
  have HBV := hid hbl
  clear h hA hB k1 k2 hw3 hmr hbl
  by_cases hT1 : tk = 1 ∧ tn = ⟨#[]⟩
  · rw [decide_eq_true hT1.1] at t1
    rw [show nmEq tn ⟨#[]⟩ = true from nmEq_iff.2 hT1.2] at te
    have HV := hid (show fitsW L ⟨xk, xt, xn⟩ tk tn = (decide (xk = 1) && (decide (xt = 0) && nmEq xn ⟨#[]⟩)) from by unfold fitsW; rw [if_pos hT1])
    rw [HV.out]
    clear hT1
    clear x2 x4 x5
    generalize decide (xk = 1) = b1 at *
    generalize decide (xt = 0) = b2 at *
    generalize nmEq xn ⟨#[]⟩ = b3 at *
    cases b1 <;> cases b2 <;> cases b3
    · go_enter Tryd.func14, Tryd.ntmps14
      go_upto_region 1 with fail
      rw [show (w.alloc (.cells #[.int .i64 xk, .int .i64 xt, .string xn] 35)).alloc (.cells #[.int .i64 tk, .string tn] 24) = w3 from HW3.out]
      have hb := Below.refl w3.heap.size w3
      have c0 := blk_cell (blk_below K1.out hb) 0
      have c1 := blk_cell (blk_below K1.out hb) 1
      have c2 := blk_cell (blk_below K1.out hb) 2
      have d0 := blk_cell (blk_below K2.out hb) 0
      have d1 := blk_cell (blk_below K2.out hb) 1
      have HBz := hid hb
      go_wp2_with (first
        | (go_at_call 52; refine HMR.out.mono ?_; rintro e w' ⟨rfl, hB⟩; have hb := bel_tr (a := w3) (Below.refl w3.heap.size w3) hB; clear hB; have c0 := blk_cell (blk_below K1.out hb) 0; have c1 := blk_cell (blk_below K1.out hb) 1; have c2 := blk_cell (blk_below K1.out hb) 2; have d0 := blk_cell (blk_below K2.out hb) 0; have d1 := blk_cell (blk_below K2.out hb) 1)
        | (go_at_call 15; refine (HBL.out _ (by assumption)).mono ?_; rintro e w' ⟨rfl, hB⟩; have hb := bel_tr (a := w3) (by assumption) hB; clear hB; have c0 := blk_cell (blk_below K1.out hb) 0; have c1 := blk_cell (blk_below K1.out hb) 1; have c2 := blk_cell (blk_below K1.out hb) 2; have d0 := blk_cell (blk_below K2.out hb) 0; have d1 := blk_cell (blk_below K2.out hb) 1))
      go_ret
      exact ⟨rfl, below_weaken HB2.out HB2.out.size hb⟩
    · go_enter Tryd.func14, Tryd.ntmps14
      go_upto_region 1 with fail
      rw [show (w.alloc (.cells #[.int .i64 xk, .int .i64 xt, .string xn] 35)).alloc (.cells #[.int .i64 tk, .string tn] 24) = w3 from HW3.out]
      have hb := Below.refl w3.heap.size w3
      have c0 := blk_cell (blk_below K1.out hb) 0
      have c1 := blk_cell (blk_below K1.out hb) 1
      have c2 := blk_cell (blk_below K1.out hb) 2
      have d0 := blk_cell (blk_below K2.out hb) 0
      have d1 := blk_cell (blk_below K2.out hb) 1
      have HBz := hid hb
      go_wp2_with (first
        | (go_at_call 52; refine HMR.out.mono ?_; rintro e w' ⟨rfl, hB⟩; have hb := bel_tr (a := w3) (Below.refl w3.heap.size w3) hB; clear hB; have c0 := blk_cell (blk_below K1.out hb) 0; have c1 := blk_cell (blk_below K1.out hb) 1; have c2 := blk_cell (blk_below K1.out hb) 2; have d0 := blk_cell (blk_below K2.out hb) 0; have d1 := blk_cell (blk_below K2.out hb) 1)
        | (go_at_call 15; refine (HBL.out _ (by assumption)).mono ?_; rintro e w' ⟨rfl, hB⟩; have hb := bel_tr (a := w3) (by assumption) hB; clear hB; have c0 := blk_cell (blk_below K1.out hb) 0; have c1 := blk_cell (blk_below K1.out hb) 1; have c2 := blk_cell (blk_below K1.out hb) 2; have d0 := blk_cell (blk_below K2.out hb) 0; have d1 := blk_cell (blk_below K2.out hb) 1))
      go_ret
      exact ⟨rfl, below_weaken HB2.out HB2.out.size hb⟩
    · go_enter Tryd.func14, Tryd.ntmps14
      go_upto_region 1 with fail
      rw [show (w.alloc (.cells #[.int .i64 xk, .int .i64 xt, .string xn] 35)).alloc (.cells #[.int .i64 tk, .string tn] 24) = w3 from HW3.out]
      have hb := Below.refl w3.heap.size w3
      have c0 := blk_cell (blk_below K1.out hb) 0
      have c1 := blk_cell (blk_below K1.out hb) 1
      have c2 := blk_cell (blk_below K1.out hb) 2
      have d0 := blk_cell (blk_below K2.out hb) 0
      have d1 := blk_cell (blk_below K2.out hb) 1
      have HBz := hid hb
      go_wp2_with (first
        | (go_at_call 52; refine HMR.out.mono ?_; rintro e w' ⟨rfl, hB⟩; have hb := bel_tr (a := w3) (Below.refl w3.heap.size w3) hB; clear hB; have c0 := blk_cell (blk_below K1.out hb) 0; have c1 := blk_cell (blk_below K1.out hb) 1; have c2 := blk_cell (blk_below K1.out hb) 2; have d0 := blk_cell (blk_below K2.out hb) 0; have d1 := blk_cell (blk_below K2.out hb) 1)
        | (go_at_call 15; refine (HBL.out _ (by assumption)).mono ?_; rintro e w' ⟨rfl, hB⟩; have hb := bel_tr (a := w3) (by assumption) hB; clear hB; have c0 := blk_cell (blk_below K1.out hb) 0; have c1 := blk_cell (blk_below K1.out hb) 1; have c2 := blk_cell (blk_below K1.out hb) 2; have d0 := blk_cell (blk_below K2.out hb) 0; have d1 := blk_cell (blk_below K2.out hb) 1))
      go_ret
      exact ⟨rfl, below_weaken HB2.out HB2.out.size hb⟩
    · go_enter Tryd.func14, Tryd.ntmps14
      go_upto_region 1 with fail
      rw [show (w.alloc (.cells #[.int .i64 xk, .int .i64 xt, .string xn] 35)).alloc (.cells #[.int .i64 tk, .string tn] 24) = w3 from HW3.out]
      have hb := Below.refl w3.heap.size w3
      have c0 := blk_cell (blk_below K1.out hb) 0
      have c1 := blk_cell (blk_below K1.out hb) 1
      have c2 := blk_cell (blk_below K1.out hb) 2
      have d0 := blk_cell (blk_below K2.out hb) 0
      have d1 := blk_cell (blk_below K2.out hb) 1
      have HBz := hid hb
      go_wp2_with (first
        | (go_at_call 52; refine HMR.out.mono ?_; rintro e w' ⟨rfl, hB⟩; have hb := bel_tr (a := w3) (Below.refl w3.heap.size w3) hB; clear hB; have c0 := blk_cell (blk_below K1.out hb) 0; have c1 := blk_cell (blk_below K1.out hb) 1; have c2 := blk_cell (blk_below K1.out hb) 2; have d0 := blk_cell (blk_below K2.out hb) 0; have d1 := blk_cell (blk_below K2.out hb) 1)
        | (go_at_call 15; refine (HBL.out _ (by assumption)).mono ?_; rintro e w' ⟨rfl, hB⟩; have hb := bel_tr (a := w3) (by assumption) hB; clear hB; have c0 := blk_cell (blk_below K1.out hb) 0; have c1 := blk_cell (blk_below K1.out hb) 1; have c2 := blk_cell (blk_below K1.out hb) 2; have d0 := blk_cell (blk_below K2.out hb) 0; have d1 := blk_cell (blk_below K2.out hb) 1))
      go_ret
      exact ⟨rfl, below_weaken HB2.out HB2.out.size hb⟩
    · go_enter Tryd.func14, Tryd.ntmps14
      go_upto_region 1 with fail
      rw [show (w.alloc (.cells #[.int .i64 xk, .int .i64 xt, .string xn] 35)).alloc (.cells #[.int .i64 tk, .string tn] 24) = w3 from HW3.out]
      have hb := Below.refl w3.heap.size w3
      have c0 := blk_cell (blk_below K1.out hb) 0
      have c1 := blk_cell (blk_below K1.out hb) 1
      have c2 := blk_cell (blk_below K1.out hb) 2
      have d0 := blk_cell (blk_below K2.out hb) 0
      have d1 := blk_cell (blk_below K2.out hb) 1
      have HBz := hid hb
      go_wp2_with (first
        | (go_at_call 52; refine HMR.out.mono ?_; rintro e w' ⟨rfl, hB⟩; have hb := bel_tr (a := w3) (Below.refl w3.heap.size w3) hB; clear hB; have c0 := blk_cell (blk_below K1.out hb) 0; have c1 := blk_cell (blk_below K1.out hb) 1; have c2 := blk_cell (blk_below K1.out hb) 2; have d0 := blk_cell (blk_below K2.out hb) 0; have d1 := blk_cell (blk_below K2.out hb) 1)
        | (go_at_call 15; refine (HBL.out _ (by assumption)).mono ?_; rintro e w' ⟨rfl, hB⟩; have hb := bel_tr (a := w3) (by assumption) hB; clear hB; have c0 := blk_cell (blk_below K1.out hb) 0; have c1 := blk_cell (blk_below K1.out hb) 1; have c2 := blk_cell (blk_below K1.out hb) 2; have d0 := blk_cell (blk_below K2.out hb) 0; have d1 := blk_cell (blk_below K2.out hb) 1))
      go_ret
      exact ⟨rfl, below_weaken HB2.out HB2.out.size hb⟩
    · go_enter Tryd.func14, Tryd.ntmps14
      go_upto_region 1 with fail
      rw [show (w.alloc (.cells #[.int .i64 xk, .int .i64 xt, .string xn] 35)).alloc (.cells #[.int .i64 tk, .string tn] 24) = w3 from HW3.out]
      have hb := Below.refl w3.heap.size w3
      have c0 := blk_cell (blk_below K1.out hb) 0
      have c1 := blk_cell (blk_below K1.out hb) 1
      have c2 := blk_cell (blk_below K1.out hb) 2
      have d0 := blk_cell (blk_below K2.out hb) 0
      have d1 := blk_cell (blk_below K2.out hb) 1
      have HBz := hid hb
      go_wp2_with (first
        | (go_at_call 52; refine HMR.out.mono ?_; rintro e w' ⟨rfl, hB⟩; have hb := bel_tr (a := w3) (Below.refl w3.heap.size w3) hB; clear hB; have c0 := blk_cell (blk_below K1.out hb) 0; have c1 := blk_cell (blk_below K1.out hb) 1; have c2 := blk_cell (blk_below K1.out hb) 2; have d0 := blk_cell (blk_below K2.out hb) 0; have d1 := blk_cell (blk_below K2.out hb) 1)
        | (go_at_call 15; refine (HBL.out _ (by assumption)).mono ?_; rintro e w' ⟨rfl, hB⟩; have hb := bel_tr (a := w3) (by assumption) hB; clear hB; have c0 := blk_cell (blk_below K1.out hb) 0; have c1 := blk_cell (blk_below K1.out hb) 1; have c2 := blk_cell (blk_below K1.out hb) 2; have d0 := blk_cell (blk_below K2.out hb) 0; have d1 := blk_cell (blk_below K2.out hb) 1))
      go_ret
      exact ⟨rfl, below_weaken HB2.out HB2.out.size hb⟩
    · go_enter Tryd.func14, Tryd.ntmps14
      go_upto_region 1 with fail
      rw [show (w.alloc (.cells #[.int .i64 xk, .int .i64 xt, .string xn] 35)).alloc (.cells #[.int .i64 tk, .string tn] 24) = w3 from HW3.out]
      have hb := Below.refl w3.heap.size w3
      have c0 := blk_cell (blk_below K1.out hb) 0
      have c1 := blk_cell (blk_below K1.out hb) 1
      have c2 := blk_cell (blk_below K1.out hb) 2
      have d0 := blk_cell (blk_below K2.out hb) 0
      have d1 := blk_cell (blk_below K2.out hb) 1
      have HBz := hid hb
      go_wp2_with (first
        | (go_at_call 52; refine HMR.out.mono ?_; rintro e w' ⟨rfl, hB⟩; have hb := bel_tr (a := w3) (Below.refl w3.heap.size w3) hB; clear hB; have c0 := blk_cell (blk_below K1.out hb) 0; have c1 := blk_cell (blk_below K1.out hb) 1; have c2 := blk_cell (blk_below K1.out hb) 2; have d0 := blk_cell (blk_below K2.out hb) 0; have d1 := blk_cell (blk_below K2.out hb) 1)
        | (go_at_call 15; refine (HBL.out _ (by assumption)).mono ?_; rintro e w' ⟨rfl, hB⟩; have hb := bel_tr (a := w3) (by assumption) hB; clear hB; have c0 := blk_cell (blk_below K1.out hb) 0; have c1 := blk_cell (blk_below K1.out hb) 1; have c2 := blk_cell (blk_below K1.out hb) 2; have d0 := blk_cell (blk_below K2.out hb) 0; have d1 := blk_cell (blk_below K2.out hb) 1))
      go_ret
      exact ⟨rfl, below_weaken HB2.out HB2.out.size hb⟩
    · go_enter Tryd.func14, Tryd.ntmps14
      go_upto_region 1 with fail
      rw [show (w.alloc (.cells #[.int .i64 xk, .int .i64 xt, .string xn] 35)).alloc (.cells #[.int .i64 tk, .string tn] 24) = w3 from HW3.out]
      have hb := Below.refl w3.heap.size w3
      have c0 := blk_cell (blk_below K1.out hb) 0
      have c1 := blk_cell (blk_below K1.out hb) 1
      have c2 := blk_cell (blk_below K1.out hb) 2
      have d0 := blk_cell (blk_below K2.out hb) 0
      have d1 := blk_cell (blk_below K2.out hb) 1
      have HBz := hid hb
      go_wp2_with (first
        | (go_at_call 52; refine HMR.out.mono ?_; rintro e w' ⟨rfl, hB⟩; have hb := bel_tr (a := w3) (Below.refl w3.heap.size w3) hB; clear hB; have c0 := blk_cell (blk_below K1.out hb) 0; have c1 := blk_cell (blk_below K1.out hb) 1; have c2 := blk_cell (blk_below K1.out hb) 2; have d0 := blk_cell (blk_below K2.out hb) 0; have d1 := blk_cell (blk_below K2.out hb) 1)
        | (go_at_call 15; refine (HBL.out _ (by assumption)).mono ?_; rintro e w' ⟨rfl, hB⟩; have hb := bel_tr (a := w3) (by assumption) hB; clear hB; have c0 := blk_cell (blk_below K1.out hb) 0; have c1 := blk_cell (blk_below K1.out hb) 1; have c2 := blk_cell (blk_below K1.out hb) 2; have d0 := blk_cell (blk_below K2.out hb) 0; have d1 := blk_cell (blk_below K2.out hb) 1))
      go_ret
      exact ⟨rfl, below_weaken HB2.out HB2.out.size hb⟩
  by_cases hT2 : tk = 2 ∧ tn = ⟨#[]⟩
  · rw [decide_eq_true hT2.1] at t2
    rw [show nmEq tn ⟨#[]⟩ = true from nmEq_iff.2 hT2.2] at te
    rw [show decide (tk = 1) = false from decide_eq_false (by omega)] at t1
    have HV := hid (show fitsW L ⟨xk, xt, xn⟩ tk tn = (decide (xk = 2) && (decide (xt = 0) && nmEq xn ⟨#[]⟩)) from by unfold fitsW; rw [if_neg (fun hh => by have := hh.1; omega), if_pos hT2])
    rw [HV.out]
    clear hT2
    clear x1 x4 x5
    generalize decide (xk = 2) = b1 at *
    generalize decide (xt = 0) = b2 at *
    generalize nmEq xn ⟨#[]⟩ = b3 at *
    cases b1 <;> cases b2 <;> cases b3
    · go_enter Tryd.func14, Tryd.ntmps14
      go_upto_region 1 with fail
      rw [show (w.alloc (.cells #[.int .i64 xk, .int .i64 xt, .string xn] 35)).alloc (.cells #[.int .i64 tk, .string tn] 24) = w3 from HW3.out]
      have hb := Below.refl w3.heap.size w3
      have c0 := blk_cell (blk_below K1.out hb) 0
      have c1 := blk_cell (blk_below K1.out hb) 1
      have c2 := blk_cell (blk_below K1.out hb) 2
      have d0 := blk_cell (blk_below K2.out hb) 0
      have d1 := blk_cell (blk_below K2.out hb) 1
      have HBz := hid hb
      go_wp2_with (first
        | (go_at_call 52; refine HMR.out.mono ?_; rintro e w' ⟨rfl, hB⟩; have hb := bel_tr (a := w3) (Below.refl w3.heap.size w3) hB; clear hB; have c0 := blk_cell (blk_below K1.out hb) 0; have c1 := blk_cell (blk_below K1.out hb) 1; have c2 := blk_cell (blk_below K1.out hb) 2; have d0 := blk_cell (blk_below K2.out hb) 0; have d1 := blk_cell (blk_below K2.out hb) 1)
        | (go_at_call 15; refine (HBL.out _ (by assumption)).mono ?_; rintro e w' ⟨rfl, hB⟩; have hb := bel_tr (a := w3) (by assumption) hB; clear hB; have c0 := blk_cell (blk_below K1.out hb) 0; have c1 := blk_cell (blk_below K1.out hb) 1; have c2 := blk_cell (blk_below K1.out hb) 2; have d0 := blk_cell (blk_below K2.out hb) 0; have d1 := blk_cell (blk_below K2.out hb) 1))
      go_ret
      exact ⟨rfl, below_weaken HB2.out HB2.out.size hb⟩
    · go_enter Tryd.func14, Tryd.ntmps14
      go_upto_region 1 with fail
      rw [show (w.alloc (.cells #[.int .i64 xk, .int .i64 xt, .string xn] 35)).alloc (.cells #[.int .i64 tk, .string tn] 24) = w3 from HW3.out]
      have hb := Below.refl w3.heap.size w3
      have c0 := blk_cell (blk_below K1.out hb) 0
      have c1 := blk_cell (blk_below K1.out hb) 1
      have c2 := blk_cell (blk_below K1.out hb) 2
      have d0 := blk_cell (blk_below K2.out hb) 0
      have d1 := blk_cell (blk_below K2.out hb) 1
      have HBz := hid hb
      go_wp2_with (first
        | (go_at_call 52; refine HMR.out.mono ?_; rintro e w' ⟨rfl, hB⟩; have hb := bel_tr (a := w3) (Below.refl w3.heap.size w3) hB; clear hB; have c0 := blk_cell (blk_below K1.out hb) 0; have c1 := blk_cell (blk_below K1.out hb) 1; have c2 := blk_cell (blk_below K1.out hb) 2; have d0 := blk_cell (blk_below K2.out hb) 0; have d1 := blk_cell (blk_below K2.out hb) 1)
        | (go_at_call 15; refine (HBL.out _ (by assumption)).mono ?_; rintro e w' ⟨rfl, hB⟩; have hb := bel_tr (a := w3) (by assumption) hB; clear hB; have c0 := blk_cell (blk_below K1.out hb) 0; have c1 := blk_cell (blk_below K1.out hb) 1; have c2 := blk_cell (blk_below K1.out hb) 2; have d0 := blk_cell (blk_below K2.out hb) 0; have d1 := blk_cell (blk_below K2.out hb) 1))
      go_ret
      exact ⟨rfl, below_weaken HB2.out HB2.out.size hb⟩
    · go_enter Tryd.func14, Tryd.ntmps14
      go_upto_region 1 with fail
      rw [show (w.alloc (.cells #[.int .i64 xk, .int .i64 xt, .string xn] 35)).alloc (.cells #[.int .i64 tk, .string tn] 24) = w3 from HW3.out]
      have hb := Below.refl w3.heap.size w3
      have c0 := blk_cell (blk_below K1.out hb) 0
      have c1 := blk_cell (blk_below K1.out hb) 1
      have c2 := blk_cell (blk_below K1.out hb) 2
      have d0 := blk_cell (blk_below K2.out hb) 0
      have d1 := blk_cell (blk_below K2.out hb) 1
      have HBz := hid hb
      go_wp2_with (first
        | (go_at_call 52; refine HMR.out.mono ?_; rintro e w' ⟨rfl, hB⟩; have hb := bel_tr (a := w3) (Below.refl w3.heap.size w3) hB; clear hB; have c0 := blk_cell (blk_below K1.out hb) 0; have c1 := blk_cell (blk_below K1.out hb) 1; have c2 := blk_cell (blk_below K1.out hb) 2; have d0 := blk_cell (blk_below K2.out hb) 0; have d1 := blk_cell (blk_below K2.out hb) 1)
        | (go_at_call 15; refine (HBL.out _ (by assumption)).mono ?_; rintro e w' ⟨rfl, hB⟩; have hb := bel_tr (a := w3) (by assumption) hB; clear hB; have c0 := blk_cell (blk_below K1.out hb) 0; have c1 := blk_cell (blk_below K1.out hb) 1; have c2 := blk_cell (blk_below K1.out hb) 2; have d0 := blk_cell (blk_below K2.out hb) 0; have d1 := blk_cell (blk_below K2.out hb) 1))
      go_ret
      exact ⟨rfl, below_weaken HB2.out HB2.out.size hb⟩
    · go_enter Tryd.func14, Tryd.ntmps14
      go_upto_region 1 with fail
      rw [show (w.alloc (.cells #[.int .i64 xk, .int .i64 xt, .string xn] 35)).alloc (.cells #[.int .i64 tk, .string tn] 24) = w3 from HW3.out]
      have hb := Below.refl w3.heap.size w3
      have c0 := blk_cell (blk_below K1.out hb) 0
      have c1 := blk_cell (blk_below K1.out hb) 1
      have c2 := blk_cell (blk_below K1.out hb) 2
      have d0 := blk_cell (blk_below K2.out hb) 0
      have d1 := blk_cell (blk_below K2.out hb) 1
      have HBz := hid hb
      go_wp2_with (first
        | (go_at_call 52; refine HMR.out.mono ?_; rintro e w' ⟨rfl, hB⟩; have hb := bel_tr (a := w3) (Below.refl w3.heap.size w3) hB; clear hB; have c0 := blk_cell (blk_below K1.out hb) 0; have c1 := blk_cell (blk_below K1.out hb) 1; have c2 := blk_cell (blk_below K1.out hb) 2; have d0 := blk_cell (blk_below K2.out hb) 0; have d1 := blk_cell (blk_below K2.out hb) 1)
        | (go_at_call 15; refine (HBL.out _ (by assumption)).mono ?_; rintro e w' ⟨rfl, hB⟩; have hb := bel_tr (a := w3) (by assumption) hB; clear hB; have c0 := blk_cell (blk_below K1.out hb) 0; have c1 := blk_cell (blk_below K1.out hb) 1; have c2 := blk_cell (blk_below K1.out hb) 2; have d0 := blk_cell (blk_below K2.out hb) 0; have d1 := blk_cell (blk_below K2.out hb) 1))
      go_ret
      exact ⟨rfl, below_weaken HB2.out HB2.out.size hb⟩
    · go_enter Tryd.func14, Tryd.ntmps14
      go_upto_region 1 with fail
      rw [show (w.alloc (.cells #[.int .i64 xk, .int .i64 xt, .string xn] 35)).alloc (.cells #[.int .i64 tk, .string tn] 24) = w3 from HW3.out]
      have hb := Below.refl w3.heap.size w3
      have c0 := blk_cell (blk_below K1.out hb) 0
      have c1 := blk_cell (blk_below K1.out hb) 1
      have c2 := blk_cell (blk_below K1.out hb) 2
      have d0 := blk_cell (blk_below K2.out hb) 0
      have d1 := blk_cell (blk_below K2.out hb) 1
      have HBz := hid hb
      go_wp2_with (first
        | (go_at_call 52; refine HMR.out.mono ?_; rintro e w' ⟨rfl, hB⟩; have hb := bel_tr (a := w3) (Below.refl w3.heap.size w3) hB; clear hB; have c0 := blk_cell (blk_below K1.out hb) 0; have c1 := blk_cell (blk_below K1.out hb) 1; have c2 := blk_cell (blk_below K1.out hb) 2; have d0 := blk_cell (blk_below K2.out hb) 0; have d1 := blk_cell (blk_below K2.out hb) 1)
        | (go_at_call 15; refine (HBL.out _ (by assumption)).mono ?_; rintro e w' ⟨rfl, hB⟩; have hb := bel_tr (a := w3) (by assumption) hB; clear hB; have c0 := blk_cell (blk_below K1.out hb) 0; have c1 := blk_cell (blk_below K1.out hb) 1; have c2 := blk_cell (blk_below K1.out hb) 2; have d0 := blk_cell (blk_below K2.out hb) 0; have d1 := blk_cell (blk_below K2.out hb) 1))
      go_ret
      exact ⟨rfl, below_weaken HB2.out HB2.out.size hb⟩
    · go_enter Tryd.func14, Tryd.ntmps14
      go_upto_region 1 with fail
      rw [show (w.alloc (.cells #[.int .i64 xk, .int .i64 xt, .string xn] 35)).alloc (.cells #[.int .i64 tk, .string tn] 24) = w3 from HW3.out]
      have hb := Below.refl w3.heap.size w3
      have c0 := blk_cell (blk_below K1.out hb) 0
      have c1 := blk_cell (blk_below K1.out hb) 1
      have c2 := blk_cell (blk_below K1.out hb) 2
      have d0 := blk_cell (blk_below K2.out hb) 0
      have d1 := blk_cell (blk_below K2.out hb) 1
      have HBz := hid hb
      go_wp2_with (first
        | (go_at_call 52; refine HMR.out.mono ?_; rintro e w' ⟨rfl, hB⟩; have hb := bel_tr (a := w3) (Below.refl w3.heap.size w3) hB; clear hB; have c0 := blk_cell (blk_below K1.out hb) 0; have c1 := blk_cell (blk_below K1.out hb) 1; have c2 := blk_cell (blk_below K1.out hb) 2; have d0 := blk_cell (blk_below K2.out hb) 0; have d1 := blk_cell (blk_below K2.out hb) 1)
        | (go_at_call 15; refine (HBL.out _ (by assumption)).mono ?_; rintro e w' ⟨rfl, hB⟩; have hb := bel_tr (a := w3) (by assumption) hB; clear hB; have c0 := blk_cell (blk_below K1.out hb) 0; have c1 := blk_cell (blk_below K1.out hb) 1; have c2 := blk_cell (blk_below K1.out hb) 2; have d0 := blk_cell (blk_below K2.out hb) 0; have d1 := blk_cell (blk_below K2.out hb) 1))
      go_ret
      exact ⟨rfl, below_weaken HB2.out HB2.out.size hb⟩
    · go_enter Tryd.func14, Tryd.ntmps14
      go_upto_region 1 with fail
      rw [show (w.alloc (.cells #[.int .i64 xk, .int .i64 xt, .string xn] 35)).alloc (.cells #[.int .i64 tk, .string tn] 24) = w3 from HW3.out]
      have hb := Below.refl w3.heap.size w3
      have c0 := blk_cell (blk_below K1.out hb) 0
      have c1 := blk_cell (blk_below K1.out hb) 1
      have c2 := blk_cell (blk_below K1.out hb) 2
      have d0 := blk_cell (blk_below K2.out hb) 0
      have d1 := blk_cell (blk_below K2.out hb) 1
      have HBz := hid hb
      go_wp2_with (first
        | (go_at_call 52; refine HMR.out.mono ?_; rintro e w' ⟨rfl, hB⟩; have hb := bel_tr (a := w3) (Below.refl w3.heap.size w3) hB; clear hB; have c0 := blk_cell (blk_below K1.out hb) 0; have c1 := blk_cell (blk_below K1.out hb) 1; have c2 := blk_cell (blk_below K1.out hb) 2; have d0 := blk_cell (blk_below K2.out hb) 0; have d1 := blk_cell (blk_below K2.out hb) 1)
        | (go_at_call 15; refine (HBL.out _ (by assumption)).mono ?_; rintro e w' ⟨rfl, hB⟩; have hb := bel_tr (a := w3) (by assumption) hB; clear hB; have c0 := blk_cell (blk_below K1.out hb) 0; have c1 := blk_cell (blk_below K1.out hb) 1; have c2 := blk_cell (blk_below K1.out hb) 2; have d0 := blk_cell (blk_below K2.out hb) 0; have d1 := blk_cell (blk_below K2.out hb) 1))
      go_ret
      exact ⟨rfl, below_weaken HB2.out HB2.out.size hb⟩
    · go_enter Tryd.func14, Tryd.ntmps14
      go_upto_region 1 with fail
      rw [show (w.alloc (.cells #[.int .i64 xk, .int .i64 xt, .string xn] 35)).alloc (.cells #[.int .i64 tk, .string tn] 24) = w3 from HW3.out]
      have hb := Below.refl w3.heap.size w3
      have c0 := blk_cell (blk_below K1.out hb) 0
      have c1 := blk_cell (blk_below K1.out hb) 1
      have c2 := blk_cell (blk_below K1.out hb) 2
      have d0 := blk_cell (blk_below K2.out hb) 0
      have d1 := blk_cell (blk_below K2.out hb) 1
      have HBz := hid hb
      go_wp2_with (first
        | (go_at_call 52; refine HMR.out.mono ?_; rintro e w' ⟨rfl, hB⟩; have hb := bel_tr (a := w3) (Below.refl w3.heap.size w3) hB; clear hB; have c0 := blk_cell (blk_below K1.out hb) 0; have c1 := blk_cell (blk_below K1.out hb) 1; have c2 := blk_cell (blk_below K1.out hb) 2; have d0 := blk_cell (blk_below K2.out hb) 0; have d1 := blk_cell (blk_below K2.out hb) 1)
        | (go_at_call 15; refine (HBL.out _ (by assumption)).mono ?_; rintro e w' ⟨rfl, hB⟩; have hb := bel_tr (a := w3) (by assumption) hB; clear hB; have c0 := blk_cell (blk_below K1.out hb) 0; have c1 := blk_cell (blk_below K1.out hb) 1; have c2 := blk_cell (blk_below K1.out hb) 2; have d0 := blk_cell (blk_below K2.out hb) 0; have d1 := blk_cell (blk_below K2.out hb) 1))
      go_ret
      exact ⟨rfl, below_weaken HB2.out HB2.out.size hb⟩
  cases mr with
  | false =>
    have HV := hid (show fitsW L ⟨xk, xt, xn⟩ tk tn = false from by unfold fitsW; rw [if_neg hT1, if_neg hT2, if_pos HMV.out])
    rw [HV.out]
    by_cases h1 : tk = 1
    · rw [decide_eq_true h1] at t1
      rw [show nmEq tn ⟨#[]⟩ = false from nmEq_ne.2 (fun e => hT1 ⟨h1, e⟩)] at te
      rw [show decide (tk = 2) = false from decide_eq_false (by omega)] at t2
      clear h1 hT1 hT2 x1 x2 x4 x5 xz xe
      go_enter Tryd.func14, Tryd.ntmps14
      go_upto_region 1 with fail
      rw [show (w.alloc (.cells #[.int .i64 xk, .int .i64 xt, .string xn] 35)).alloc (.cells #[.int .i64 tk, .string tn] 24) = w3 from HW3.out]
      have hb := Below.refl w3.heap.size w3
      have c0 := blk_cell (blk_below K1.out hb) 0
      have c1 := blk_cell (blk_below K1.out hb) 1
      have c2 := blk_cell (blk_below K1.out hb) 2
      have d0 := blk_cell (blk_below K2.out hb) 0
      have d1 := blk_cell (blk_below K2.out hb) 1
      have HBz := hid hb
      go_wp2_with (first
        | (go_at_call 52; refine HMR.out.mono ?_; rintro e w' ⟨rfl, hB⟩; have hb := bel_tr (a := w3) (Below.refl w3.heap.size w3) hB; clear hB; have c0 := blk_cell (blk_below K1.out hb) 0; have c1 := blk_cell (blk_below K1.out hb) 1; have c2 := blk_cell (blk_below K1.out hb) 2; have d0 := blk_cell (blk_below K2.out hb) 0; have d1 := blk_cell (blk_below K2.out hb) 1)
        | (go_at_call 15; refine (HBL.out _ (by assumption)).mono ?_; rintro e w' ⟨rfl, hB⟩; have hb := bel_tr (a := w3) (by assumption) hB; clear hB; have c0 := blk_cell (blk_below K1.out hb) 0; have c1 := blk_cell (blk_below K1.out hb) 1; have c2 := blk_cell (blk_below K1.out hb) 2; have d0 := blk_cell (blk_below K2.out hb) 0; have d1 := blk_cell (blk_below K2.out hb) 1))
      go_ret
      exact ⟨rfl, below_weaken HB2.out HB2.out.size hb⟩
    · rw [decide_eq_false h1] at t1
      by_cases h2 : tk = 2
      · rw [decide_eq_true h2] at t2
        rw [show nmEq tn ⟨#[]⟩ = false from nmEq_ne.2 (fun e => hT2 ⟨h2, e⟩)] at te
        clear h1 h2 hT1 hT2 x1 x2 x4 x5 xz xe
        go_enter Tryd.func14, Tryd.ntmps14
        go_upto_region 1 with fail
        rw [show (w.alloc (.cells #[.int .i64 xk, .int .i64 xt, .string xn] 35)).alloc (.cells #[.int .i64 tk, .string tn] 24) = w3 from HW3.out]
        have hb := Below.refl w3.heap.size w3
        have c0 := blk_cell (blk_below K1.out hb) 0
        have c1 := blk_cell (blk_below K1.out hb) 1
        have c2 := blk_cell (blk_below K1.out hb) 2
        have d0 := blk_cell (blk_below K2.out hb) 0
        have d1 := blk_cell (blk_below K2.out hb) 1
        have HBz := hid hb
        go_wp2_with (first
          | (go_at_call 52; refine HMR.out.mono ?_; rintro e w' ⟨rfl, hB⟩; have hb := bel_tr (a := w3) (Below.refl w3.heap.size w3) hB; clear hB; have c0 := blk_cell (blk_below K1.out hb) 0; have c1 := blk_cell (blk_below K1.out hb) 1; have c2 := blk_cell (blk_below K1.out hb) 2; have d0 := blk_cell (blk_below K2.out hb) 0; have d1 := blk_cell (blk_below K2.out hb) 1)
          | (go_at_call 15; refine (HBL.out _ (by assumption)).mono ?_; rintro e w' ⟨rfl, hB⟩; have hb := bel_tr (a := w3) (by assumption) hB; clear hB; have c0 := blk_cell (blk_below K1.out hb) 0; have c1 := blk_cell (blk_below K1.out hb) 1; have c2 := blk_cell (blk_below K1.out hb) 2; have d0 := blk_cell (blk_below K2.out hb) 0; have d1 := blk_cell (blk_below K2.out hb) 1))
        go_ret
        exact ⟨rfl, below_weaken HB2.out HB2.out.size hb⟩
      · rw [decide_eq_false h2] at t2
        clear h1 h2 hT1 hT2 te x1 x2 x4 x5 xz xe
        go_enter Tryd.func14, Tryd.ntmps14
        go_upto_region 1 with fail
        rw [show (w.alloc (.cells #[.int .i64 xk, .int .i64 xt, .string xn] 35)).alloc (.cells #[.int .i64 tk, .string tn] 24) = w3 from HW3.out]
        have hb := Below.refl w3.heap.size w3
        have c0 := blk_cell (blk_below K1.out hb) 0
        have c1 := blk_cell (blk_below K1.out hb) 1
        have c2 := blk_cell (blk_below K1.out hb) 2
        have d0 := blk_cell (blk_below K2.out hb) 0
        have d1 := blk_cell (blk_below K2.out hb) 1
        have HBz := hid hb
        go_wp2_with (first
          | (go_at_call 52; refine HMR.out.mono ?_; rintro e w' ⟨rfl, hB⟩; have hb := bel_tr (a := w3) (Below.refl w3.heap.size w3) hB; clear hB; have c0 := blk_cell (blk_below K1.out hb) 0; have c1 := blk_cell (blk_below K1.out hb) 1; have c2 := blk_cell (blk_below K1.out hb) 2; have d0 := blk_cell (blk_below K2.out hb) 0; have d1 := blk_cell (blk_below K2.out hb) 1)
          | (go_at_call 15; refine (HBL.out _ (by assumption)).mono ?_; rintro e w' ⟨rfl, hB⟩; have hb := bel_tr (a := w3) (by assumption) hB; clear hB; have c0 := blk_cell (blk_below K1.out hb) 0; have c1 := blk_cell (blk_below K1.out hb) 1; have c2 := blk_cell (blk_below K1.out hb) 2; have d0 := blk_cell (blk_below K2.out hb) 0; have d1 := blk_cell (blk_below K2.out hb) 1))
        go_ret
        exact ⟨rfl, below_weaken HB2.out HB2.out.size hb⟩
  | true =>
    have h3 : 3 ≤ tk := by
      have := HMV.out
      unfold mayRefT at this
      rw [Bool.and_eq_true] at this
      exact of_decide_eq_true this.1
    rw [show decide (tk = 1) = false from decide_eq_false (by omega)] at t1
    rw [show decide (tk = 2) = false from decide_eq_false (by omega)] at t2
    have HV := hid (show fitsW L ⟨xk, xt, xn⟩ tk tn = ((decide (xk = 4) && (decide (xt = 0) && nmEq xn ⟨#[]⟩)) || (decide (xk = 5) && bl)) from by unfold fitsW; rw [if_neg hT1, if_neg hT2, if_neg (by rw [HMV.out]; decide), ← HBV.out])
    rw [HV.out]
    clear hT1 hT2 te x1 x2 h3
    by_cases h4 : xk = 4
    · rw [show decide (xk = 5) = false from decide_eq_false (by omega)] at x5 ⊢
      rw [decide_eq_true h4] at x4 ⊢
      clear h4
      generalize decide (xt = 0) = b2 at *
      generalize nmEq xn ⟨#[]⟩ = b3 at *
      cases b2 <;> cases b3
      · go_enter Tryd.func14, Tryd.ntmps14
        go_upto_region 1 with fail
        rw [show (w.alloc (.cells #[.int .i64 xk, .int .i64 xt, .string xn] 35)).alloc (.cells #[.int .i64 tk, .string tn] 24) = w3 from HW3.out]
        have hb := Below.refl w3.heap.size w3
        have c0 := blk_cell (blk_below K1.out hb) 0
        have c1 := blk_cell (blk_below K1.out hb) 1
        have c2 := blk_cell (blk_below K1.out hb) 2
        have d0 := blk_cell (blk_below K2.out hb) 0
        have d1 := blk_cell (blk_below K2.out hb) 1
        have HBz := hid hb
        go_wp2_with (first
          | (go_at_call 52; refine HMR.out.mono ?_; rintro e w' ⟨rfl, hB⟩; have hb := bel_tr (a := w3) (Below.refl w3.heap.size w3) hB; clear hB; have c0 := blk_cell (blk_below K1.out hb) 0; have c1 := blk_cell (blk_below K1.out hb) 1; have c2 := blk_cell (blk_below K1.out hb) 2; have d0 := blk_cell (blk_below K2.out hb) 0; have d1 := blk_cell (blk_below K2.out hb) 1)
          | (go_at_call 15; refine (HBL.out _ (by assumption)).mono ?_; rintro e w' ⟨rfl, hB⟩; have hb := bel_tr (a := w3) (by assumption) hB; clear hB; have c0 := blk_cell (blk_below K1.out hb) 0; have c1 := blk_cell (blk_below K1.out hb) 1; have c2 := blk_cell (blk_below K1.out hb) 2; have d0 := blk_cell (blk_below K2.out hb) 0; have d1 := blk_cell (blk_below K2.out hb) 1))
        go_ret
        exact ⟨rfl, below_weaken HB2.out HB2.out.size hb⟩
      · go_enter Tryd.func14, Tryd.ntmps14
        go_upto_region 1 with fail
        rw [show (w.alloc (.cells #[.int .i64 xk, .int .i64 xt, .string xn] 35)).alloc (.cells #[.int .i64 tk, .string tn] 24) = w3 from HW3.out]
        have hb := Below.refl w3.heap.size w3
        have c0 := blk_cell (blk_below K1.out hb) 0
        have c1 := blk_cell (blk_below K1.out hb) 1
        have c2 := blk_cell (blk_below K1.out hb) 2
        have d0 := blk_cell (blk_below K2.out hb) 0
        have d1 := blk_cell (blk_below K2.out hb) 1
        have HBz := hid hb
        go_wp2_with (first
          | (go_at_call 52; refine HMR.out.mono ?_; rintro e w' ⟨rfl, hB⟩; have hb := bel_tr (a := w3) (Below.refl w3.heap.size w3) hB; clear hB; have c0 := blk_cell (blk_below K1.out hb) 0; have c1 := blk_cell (blk_below K1.out hb) 1; have c2 := blk_cell (blk_below K1.out hb) 2; have d0 := blk_cell (blk_below K2.out hb) 0; have d1 := blk_cell (blk_below K2.out hb) 1)
          | (go_at_call 15; refine (HBL.out _ (by assumption)).mono ?_; rintro e w' ⟨rfl, hB⟩; have hb := bel_tr (a := w3) (by assumption) hB; clear hB; have c0 := blk_cell (blk_below K1.out hb) 0; have c1 := blk_cell (blk_below K1.out hb) 1; have c2 := blk_cell (blk_below K1.out hb) 2; have d0 := blk_cell (blk_below K2.out hb) 0; have d1 := blk_cell (blk_below K2.out hb) 1))
        go_ret
        exact ⟨rfl, below_weaken HB2.out HB2.out.size hb⟩
      · go_enter Tryd.func14, Tryd.ntmps14
        go_upto_region 1 with fail
        rw [show (w.alloc (.cells #[.int .i64 xk, .int .i64 xt, .string xn] 35)).alloc (.cells #[.int .i64 tk, .string tn] 24) = w3 from HW3.out]
        have hb := Below.refl w3.heap.size w3
        have c0 := blk_cell (blk_below K1.out hb) 0
        have c1 := blk_cell (blk_below K1.out hb) 1
        have c2 := blk_cell (blk_below K1.out hb) 2
        have d0 := blk_cell (blk_below K2.out hb) 0
        have d1 := blk_cell (blk_below K2.out hb) 1
        have HBz := hid hb
        go_wp2_with (first
          | (go_at_call 52; refine HMR.out.mono ?_; rintro e w' ⟨rfl, hB⟩; have hb := bel_tr (a := w3) (Below.refl w3.heap.size w3) hB; clear hB; have c0 := blk_cell (blk_below K1.out hb) 0; have c1 := blk_cell (blk_below K1.out hb) 1; have c2 := blk_cell (blk_below K1.out hb) 2; have d0 := blk_cell (blk_below K2.out hb) 0; have d1 := blk_cell (blk_below K2.out hb) 1)
          | (go_at_call 15; refine (HBL.out _ (by assumption)).mono ?_; rintro e w' ⟨rfl, hB⟩; have hb := bel_tr (a := w3) (by assumption) hB; clear hB; have c0 := blk_cell (blk_below K1.out hb) 0; have c1 := blk_cell (blk_below K1.out hb) 1; have c2 := blk_cell (blk_below K1.out hb) 2; have d0 := blk_cell (blk_below K2.out hb) 0; have d1 := blk_cell (blk_below K2.out hb) 1))
        go_ret
        exact ⟨rfl, below_weaken HB2.out HB2.out.size hb⟩
      · go_enter Tryd.func14, Tryd.ntmps14
        go_upto_region 1 with fail
        rw [show (w.alloc (.cells #[.int .i64 xk, .int .i64 xt, .string xn] 35)).alloc (.cells #[.int .i64 tk, .string tn] 24) = w3 from HW3.out]
        have hb := Below.refl w3.heap.size w3
        have c0 := blk_cell (blk_below K1.out hb) 0
        have c1 := blk_cell (blk_below K1.out hb) 1
        have c2 := blk_cell (blk_below K1.out hb) 2
        have d0 := blk_cell (blk_below K2.out hb) 0
        have d1 := blk_cell (blk_below K2.out hb) 1
        have HBz := hid hb
        go_wp2_with (first
          | (go_at_call 52; refine HMR.out.mono ?_; rintro e w' ⟨rfl, hB⟩; have hb := bel_tr (a := w3) (Below.refl w3.heap.size w3) hB; clear hB; have c0 := blk_cell (blk_below K1.out hb) 0; have c1 := blk_cell (blk_below K1.out hb) 1; have c2 := blk_cell (blk_below K1.out hb) 2; have d0 := blk_cell (blk_below K2.out hb) 0; have d1 := blk_cell (blk_below K2.out hb) 1)
          | (go_at_call 15; refine (HBL.out _ (by assumption)).mono ?_; rintro e w' ⟨rfl, hB⟩; have hb := bel_tr (a := w3) (by assumption) hB; clear hB; have c0 := blk_cell (blk_below K1.out hb) 0; have c1 := blk_cell (blk_below K1.out hb) 1; have c2 := blk_cell (blk_below K1.out hb) 2; have d0 := blk_cell (blk_below K2.out hb) 0; have d1 := blk_cell (blk_below K2.out hb) 1))
        go_ret
        exact ⟨rfl, below_weaken HB2.out HB2.out.size hb⟩
    · rw [decide_eq_false h4] at x4 ⊢
      clear h4
      generalize decide (xk = 5) = b5 at *
      generalize decide (xt = 0) = b2 at *
      generalize nmEq xn ⟨#[]⟩ = b3 at *
      clear xz xe
      cases b5
      · go_enter Tryd.func14, Tryd.ntmps14
        go_upto_region 1 with fail
        rw [show (w.alloc (.cells #[.int .i64 xk, .int .i64 xt, .string xn] 35)).alloc (.cells #[.int .i64 tk, .string tn] 24) = w3 from HW3.out]
        have hb := Below.refl w3.heap.size w3
        have c0 := blk_cell (blk_below K1.out hb) 0
        have c1 := blk_cell (blk_below K1.out hb) 1
        have c2 := blk_cell (blk_below K1.out hb) 2
        have d0 := blk_cell (blk_below K2.out hb) 0
        have d1 := blk_cell (blk_below K2.out hb) 1
        have HBz := hid hb
        go_wp2_with (first
          | (go_at_call 52; refine HMR.out.mono ?_; rintro e w' ⟨rfl, hB⟩; have hb := bel_tr (a := w3) (Below.refl w3.heap.size w3) hB; clear hB; have c0 := blk_cell (blk_below K1.out hb) 0; have c1 := blk_cell (blk_below K1.out hb) 1; have c2 := blk_cell (blk_below K1.out hb) 2; have d0 := blk_cell (blk_below K2.out hb) 0; have d1 := blk_cell (blk_below K2.out hb) 1)
          | (go_at_call 15; refine (HBL.out _ (by assumption)).mono ?_; rintro e w' ⟨rfl, hB⟩; have hb := bel_tr (a := w3) (by assumption) hB; clear hB; have c0 := blk_cell (blk_below K1.out hb) 0; have c1 := blk_cell (blk_below K1.out hb) 1; have c2 := blk_cell (blk_below K1.out hb) 2; have d0 := blk_cell (blk_below K2.out hb) 0; have d1 := blk_cell (blk_below K2.out hb) 1))
        go_ret
        exact ⟨rfl, below_weaken HB2.out HB2.out.size hb⟩
      · go_enter Tryd.func14, Tryd.ntmps14
        go_upto_region 1 with fail
        rw [show (w.alloc (.cells #[.int .i64 xk, .int .i64 xt, .string xn] 35)).alloc (.cells #[.int .i64 tk, .string tn] 24) = w3 from HW3.out]
        have hb := Below.refl w3.heap.size w3
        have c0 := blk_cell (blk_below K1.out hb) 0
        have c1 := blk_cell (blk_below K1.out hb) 1
        have c2 := blk_cell (blk_below K1.out hb) 2
        have d0 := blk_cell (blk_below K2.out hb) 0
        have d1 := blk_cell (blk_below K2.out hb) 1
        have HBz := hid hb
        go_wp2_with (first
          | (go_at_call 52; refine HMR.out.mono ?_; rintro e w' ⟨rfl, hB⟩; have hb := bel_tr (a := w3) (Below.refl w3.heap.size w3) hB; clear hB; have c0 := blk_cell (blk_below K1.out hb) 0; have c1 := blk_cell (blk_below K1.out hb) 1; have c2 := blk_cell (blk_below K1.out hb) 2; have d0 := blk_cell (blk_below K2.out hb) 0; have d1 := blk_cell (blk_below K2.out hb) 1)
          | (go_at_call 15; refine (HBL.out _ (by assumption)).mono ?_; rintro e w' ⟨rfl, hB⟩; have hb := bel_tr (a := w3) (by assumption) hB; clear hB; have c0 := blk_cell (blk_below K1.out hb) 0; have c1 := blk_cell (blk_below K1.out hb) 1; have c2 := blk_cell (blk_below K1.out hb) 2; have d0 := blk_cell (blk_below K2.out hb) 0; have d1 := blk_cell (blk_below K2.out hb) 1))
        go_ret
        exact ⟨rfl, below_weaken HB2.out HB2.out.size hb⟩
end
set_option maxRecDepth 100000 in
set_option maxHeartbeats 4000000 in
theorem of_ref (k : Int) (n : ByteArray) (hk : k = 3 ∨ k = 4 ∨ k = 5 ∨ k = 6) (w : World) : Calls Tryd.prog 13 #[.agg #[.int .i64 k, .string n]] w fun e w' => ∃ g, e = .returned (.slice (some ⟨g, 0, none⟩) 1 1) ∧ w'.heap[g]? = some (.cells #[.int .i64 5, .int .i64 k, .string n] 35 (0, 0)) ∧ Below w.heap.size w w' := by
  have HB := hid (below_alloc (Below.refl w.heap.size w) (.cells #[.int .i64 k, .string n] 24))
  have k1 := blk_new w (.cells #[.int .i64 k, .string n] 24)
  rcases hk with rfl | rfl | rfl | rfl
  · go_enter Tryd.func13, Tryd.ntmps13
    go_upto_region 1 with fail
    have c0 := blk_cell k1 0
    have c1 := blk_cell k1 1
    clear k1
    generalize w.alloc (.cells #[.int .i64 3, .string n] 24) = w1 at *
    go_wp2
    go_ret
    exact ⟨_, rfl, blk_new w1 _, below_alloc HB.out _⟩
  · go_enter Tryd.func13, Tryd.ntmps13
    go_upto_region 1 with fail
    have c0 := blk_cell k1 0
    have c1 := blk_cell k1 1
    clear k1
    generalize w.alloc (.cells #[.int .i64 4, .string n] 24) = w1 at *
    go_wp2
    go_ret
    exact ⟨_, rfl, blk_new w1 _, below_alloc HB.out _⟩
  · go_enter Tryd.func13, Tryd.ntmps13
    go_upto_region 1 with fail
    have c0 := blk_cell k1 0
    have c1 := blk_cell k1 1
    clear k1
    generalize w.alloc (.cells #[.int .i64 5, .string n] 24) = w1 at *
    go_wp2
    go_ret
    exact ⟨_, rfl, blk_new w1 _, below_alloc HB.out _⟩
  · go_enter Tryd.func13, Tryd.ntmps13
    go_upto_region 1 with fail
    have c0 := blk_cell k1 0
    have c1 := blk_cell k1 1
    clear k1
    generalize w.alloc (.cells #[.int .i64 6, .string n] 24) = w1 at *
    go_wp2
    go_ret
    exact ⟨_, rfl, blk_new w1 _, below_alloc HB.out _⟩
end Go.Proofs.YtbogcknkkbnfnaaDoor

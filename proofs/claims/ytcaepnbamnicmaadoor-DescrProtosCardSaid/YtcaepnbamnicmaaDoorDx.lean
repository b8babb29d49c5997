/- The document's own answers (ref05): SameProto, Elem, Over. -/
import Derived.Test.YtcaepnbamnicmaaDoorDs
import Derived.BigQuiet
namespace Go.Proofs.YtcaepnbamnicmaaDoor
open Go.RowKit Go.Proofs.YtcaepnbamnicmaaDoorW.PrintWords

set_option maxHeartbeats 2000000 in
theorem refSame_any (r q : Ty) (A B : Option Addr) (xs ys : List Ty) (c d : Nat) (w : World) (hx : Kd.C kTy w A xs.length xs) (hy : Kd.C kTy w B ys.length ys) :
    Calls Tryd.prog 16 #[.agg #[.int .i64 r.k, .string r.n, .slice A xs.length c], .agg #[.int .i64 q.k, .string q.n, .slice B ys.length d]] w fun e w' => e = .returned (.bool (tyEq r q && tysEq xs ys)) ∧ Below w.heap.size w w' := by
  have HX := hid hx
  have HY := hid hy
  have hm := hx.2.1
  clear hx hy
  have HE : Hid (tyEq r q = ((r.k == q.k) && (r.n.toList == q.n.toList))) := rfl
  cases e1 : (r.k == q.k) with
  | false =>
    go_enter Tryd.func16, Tryd.ntmps16
    go_wp2
    go_ret
    exact ⟨by rw [HE.out, e1]; rfl, below_alloc (below_alloc (Below.refl _ _) _) _⟩
  | true =>
    cases e2 : (r.n.toList == q.n.toList) with
    | false =>
      go_enter Tryd.func16, Tryd.ntmps16
      go_wp2
      go_ret
      exact ⟨by rw [HE.out, e1, e2]; rfl, below_alloc (below_alloc (Below.refl _ _) _) _⟩
    | true =>
      have HE2 : Hid (tyEq r q = true) := by show tyEq r q = true; rw [HE.out, e1, e2]; rfl
      by_cases hl : xs.length = ys.length
      · have hll : ((xs.length : Int) == (ys.length : Int)) = true := by rw [beq_iff_eq]; omega
        have HLEN := hid hl
        clear hl
        go_enter Tryd.func16, Tryd.ntmps16
        go_wp2_with fail
        have hB1 := below_alloc (Below.refl w.heap.size w) (.cells #[.int .i64 r.k, .string r.n, .slice A xs.length c] 29)
        have hP := blk_new w (.cells #[.int .i64 r.k, .string r.n, .slice A xs.length c] 29)
        replace HX := Kd.C_alloc HX.out (.cells #[.int .i64 r.k, .string r.n, .slice A xs.length c] 29)
        replace HY := Kd.C_alloc HY.out (.cells #[.int .i64 r.k, .string r.n, .slice A xs.length c] 29)
        have hs1 := size_alloc w (.cells #[.int .i64 r.k, .string r.n, .slice A xs.length c] 29)
        generalize w.alloc (.cells #[.int .i64 r.k, .string r.n, .slice A xs.length c] 29) = W1 at *
        have hB2 := below_alloc hB1 (.cells #[.int .i64 q.k, .string q.n, .slice B ys.length d] 29)
        have hQ := blk_new W1 (.cells #[.int .i64 q.k, .string q.n, .slice B ys.length d] 29)
        rw [hs1] at hQ
        replace HX := Kd.C_alloc HX (.cells #[.int .i64 q.k, .string q.n, .slice B ys.length d] 29)
        replace HY := Kd.C_alloc HY (.cells #[.int .i64 q.k, .string q.n, .slice B ys.length d] 29)
        replace hP := blk_alloc hP (.cells #[.int .i64 q.k, .string q.n, .slice B ys.length d] 29)
        have hs2 := size_alloc W1 (.cells #[.int .i64 q.k, .string q.n, .slice B ys.length d] 29)
        generalize W1.alloc (.cells #[.int .i64 q.k, .string q.n, .slice B ys.length d] 29) = W2 at *
        go_loopw [5] (fun i wr => ∃ k : Nat, k ≤ xs.length ∧ i = .int .i64 k ∧ Hid (xs.take k = ys.take k) ∧ Below W2.heap.size W2 wr) (fun i _ => xs.length - (intOf i).toNat)
        case atStart => exact ⟨0, by omega, rfl, rfl, Below.refl _ _⟩
        obtain ⟨k, hk, rfl, hE, hL⟩ := hrel
        have hB3 := below_step hB2 hL
        have HXr3 := hid (Kd.C_below HX hL)
        have HYr3 := hid (Kd.C_below HY hL)
        have hPr3 := hid (blk_below hP hL)
        have hQr3 := hid (blk_below hQ hL)
        have cP0 := blk_cell hPr3.out 0
        have cP1 := blk_cell hPr3.out 1
        have cP2 := blk_cell hPr3.out 2
        have zP := blk_lt hPr3.out
        have cQ0 := blk_cell hQr3.out 0
        have cQ1 := blk_cell hQr3.out 1
        have cQ2 := blk_cell hQr3.out 2
        have zQ := blk_lt hQr3.out
        by_cases hlt : k < xs.length
        · obtain ⟨ad, hAd, hc0, hc1⟩ := at_Ty HXr3.out k hlt
          obtain ⟨bd, hBd, hd0, hd1⟩ := at_Ty HYr3.out k (by rw [← HLEN.out]; exact hlt)
          subst hAd
          subst hBd
          have HG : Hid (xs.getD k zTy = ys.getD k zTy → xs.take (k + 1) = ys.take (k + 1)) := take_step hlt (by rw [← HLEN.out]; exact hlt) hE.out
          have HN : Hid (xs.getD k zTy ≠ ys.getD k zTy → tysEq xs ys = false) := fun h => tysEq_no (fun e => h (by rw [e]))
          have hlt2 : k < ys.length := by rw [← HLEN.out]; exact hlt
          have hk1 : ((k : Int) + 1).toNat = k + 1 := by omega
          generalize xs.getD k zTy = t at *
          generalize ys.getD k zTy = u at *
          cases p1 : (t.k == u.k)
          case false =>
            have HN2 := hid (HN.out (fun e => by rw [e] at p1; simp at p1))
            go_wp2_with fail
            go_quiet (fail)
            go_wp2
            go_ret
            exact ⟨by rw [HE2.out, HN2.out]; rfl, below_drewN' hB3 nq⟩
          case true =>
            cases p2 : (t.n.toList == u.n.toList)
            case false =>
              have HN2 := hid (HN.out (fun e => by rw [e] at p2; simp at p2))
              go_wp2_with fail
              go_quiet (fail)
              go_wp2
              go_ret
              exact ⟨by rw [HE2.out, HN2.out]; rfl, below_drewN' hB3 nq⟩
            case true =>
              have HG2 := hid (HG.out ((tyEq_iff t u).1 (by unfold tyEq; rw [p1, p2]; rfl)))
              go_wp2_with fail
              go_quiet (fail)
              go_wp2
              go_roundw
              case rel => exact ⟨k + 1, by omega, by go_num, HG2, below_drewN' hL nq⟩
              case measure => simp [intOf]; omega
        · go_wp2
          go_ret
          have : k = xs.length := by omega
          subst this
          have e := hE.out
          rw [List.take_length, HLEN.out, List.take_length] at e
          exact ⟨by rw [HE2.out, (tysEq_iff xs ys).2 e]; rfl, hB3⟩
      · have HL : Hid (tysEq xs ys = false) := tysEq_no (fun e => hl (by rw [e]))
        have hl2 : ((xs.length : Int) == (ys.length : Int)) = false := by simp only [beq_eq_false_iff_ne, ne_eq]; omega
        go_enter Tryd.func16, Tryd.ntmps16
        go_wp2
        go_ret
        exact ⟨by rw [HE2.out, HL.out]; rfl, below_alloc (below_alloc (Below.refl _ _) _) _⟩
end Go.Proofs.YtcaepnbamnicmaaDoor

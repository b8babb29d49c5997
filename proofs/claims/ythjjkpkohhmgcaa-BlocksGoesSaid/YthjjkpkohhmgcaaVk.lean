/- Blocks: the one above both. -/
import Derived.Test.YthjjkpkohhmgcaaVj
import Derived.Test.YthjjkpkohhmgcaaPh
namespace Go.Proofs.Ythjjkpkohhmgcaa
open Go.RowKit Go.Proofs.YthjjkpkohhmgcaaW.PrintWords Go.Proofs.Ythjjkpkohhmgcaa.Dom

/-- What the one above both reads. -/
structure AW (G : Graph) (up : Nat → Option Nat) (n pp pq sp so co : Nat) (w : World) : Prop where
  kp : w.cell? ⟨pp, 0, none⟩ = some (.slice (some ⟨sp, 0, none⟩) n n)
  kq : w.cell? ⟨pq, 0, none⟩ = some (.slice (some ⟨so, 0, none⟩) n co)
  pl : ∀ x, G.R x → w.cell? ⟨sp, x, none⟩ = some (.int .i64 (G.pl x : Int))
  out : ∀ x, x < n → w.cell? ⟨so, x, none⟩ = some (.int .i64 (outV up x))
  lt : ∀ x, G.R x → x < n
theorem drewN_add (w : World) (a b : Nat) : (w.drewN a).drewN b = w.drewN (a + b) := by
  first | rfl | simp [World.drewN, Nat.add_assoc]
set_option maxRecDepth 100000 in
set_option maxHeartbeats 8000000 in
theorem both_any (G : Graph) (up : Nat → Option Nat) (i n pp pq sp so co : Nat) (w : World) (I : Inv G up i) (hA : AW G up n pp pq sp so co w) (a b : Nat) (hT : Two G up a b a b) :
    Calls Try.prog 29 #[.int .i64 a, .int .i64 b, .pointer (some ⟨pp, 0, none⟩), .pointer (some ⟨pq, 0, none⟩)] w fun e w' => ∃ r : Nat, e = .returned (.int .i64 r) ∧ Two G up a b r r ∧ ∃ k, w' = w.drewN k := by
  have HI := hid I
  have HA := hid hA
  have HT := hid hT
  have x1 := hA.kp
  have x2 := hA.kq
  clear hA hT I
  go_enter Try.func29, Try.ntmps29
  go_upto_region 1 with fail
  go_loopw [0, 1] (fun aV bV wr => ∃ x y k : Nat, aV = .int .i64 x ∧ bV = .int .i64 y ∧ wr = w.drewN k ∧ Hid (Two G up a b x y)) (fun aV bV _ => G.pl (intOf aV).toNat + G.pl (intOf bV).toNat)
  case atStart => exact ⟨a, b, 0, rfl, rfl, rfl, HT⟩
  obtain ⟨x0, y0, k, rfl, rfl, rfl, HU⟩ := hrel
  by_cases he : x0 = y0
  · subst he
    go_wp2_with fail
    go_ret
    exact ⟨x0, rfl, HU.out, k, rfl⟩
  · have b1 : ((x0 : Int) == (y0 : Int)) = false := by simp; omega
    have b2 : ((x0 : Int) != (y0 : Int)) = true := by simp; omega
    have HNE := hid (HU.out.apart he)
    clear he
    go_upto_region 2 with fail
    go_loopw [0] (fun aV wr => ∃ x k : Nat, aV = .int .i64 x ∧ wr = w.drewN k ∧ Hid (Two G up a b x y0) ∧ Hid (G.pl x ≤ G.pl x0)) (fun aV _ => G.pl (intOf aV).toNat)
    case atStart => exact ⟨x0, k, rfl, rfl, HU, Nat.le_refl _⟩
    obtain ⟨x, k2, rfl, rfl, HX, HXL⟩ := hrel
    have c1 := HA.out.pl x HX.out.Ra
    have c2 := HA.out.pl y0 HX.out.Rb
    have c3 := HA.out.out x (HA.out.lt x HX.out.Ra)
    have l1 : (x : Int) < n := by have := HA.out.lt x HX.out.Ra; omega
    have l2 : (y0 : Int) < n := by have := HA.out.lt y0 HX.out.Rb; omega
    by_cases hgt : G.pl y0 < G.pl x
    · have hgt' : (G.pl y0 : Int) < (G.pl x : Int) := by omega
      obtain ⟨o, ho, h0, hlt, hT2⟩ := HX.out.left HI.out hgt
      rw [outV_up ho h0] at c3
      have HT2 := hid hT2
      have HLT := hid hlt
      clear ho h0 hlt hT2 hgt
      go_wp2_with fail
      go_quiet (fail)
      go_wp2_with fail
      go_roundw
      case rel => exact ⟨o, _, rfl, rfl, HT2, by have := HXL.out; have := HLT.out; exact hid (by omega)⟩
      case measure => have := HLT.out; simp [intOf]; omega
    · have hgt' : ¬ ((G.pl y0 : Int) < (G.pl x : Int)) := by omega
      go_wp2_with fail
      go_quiet (fail)
      have HXY := hid (show G.pl x ≤ G.pl y0 by omega)
      clear c1 c2 c3 l1 l2 hgt hgt'
      go_wp2_with fail
      go_loopw [1] (fun bV wr => ∃ y k : Nat, bV = .int .i64 y ∧ wr = w.drewN k ∧ Hid (Two G up a b x y) ∧ Hid (G.pl y ≤ G.pl y0)) (fun bV _ => G.pl (intOf bV).toNat)
      case atStart => exact ⟨y0, k2 + nq, rfl, drewN_add _ _ _, HX, Nat.le_refl _⟩
      obtain ⟨y, k4, rfl, rfl, HY, HYL⟩ := hrel
      have c1 := HA.out.pl y HY.out.Rb
      have c2 := HA.out.pl x HY.out.Ra
      have c3 := HA.out.out y (HA.out.lt y HY.out.Rb)
      have l1 : (y : Int) < n := by have := HA.out.lt y HY.out.Rb; omega
      have l2 : (x : Int) < n := by have := HA.out.lt x HY.out.Ra; omega
      by_cases hgt : G.pl x < G.pl y
      · have hgt' : (G.pl x : Int) < (G.pl y : Int) := by omega
        obtain ⟨o, ho, h0, hlt, hT2⟩ := HY.out.right HI.out hgt
        rw [outV_up ho h0] at c3
        have HT2 := hid hT2
        have HLT := hid hlt
        clear ho h0 hlt hT2 hgt
        go_wp2_with fail
        go_quiet (fail)
        go_wp2_with fail
        go_roundw
        case rel => exact ⟨o, _, rfl, rfl, HT2, by have := HYL.out; have := HLT.out; exact hid (by omega)⟩
        case measure => have := HLT.out; simp [intOf]; omega
      · have hgt' : ¬ ((G.pl x : Int) < (G.pl y : Int)) := by omega
        go_wp2_with fail
        go_quiet (fail)
        have HYX := hid (show G.pl y ≤ G.pl x by omega)
        clear c1 c2 c3 l1 l2 hgt hgt'
        go_wp2_with fail
        go_roundw
        case rel => exact ⟨x, y, k4 + nq, rfl, rfl, drewN_add _ _ _, HY⟩
        case measure =>
          have := HNE.out
          have := HXL.out
          have := HXY.out
          have := HYL.out
          have := HYX.out
          simp [intOf]
          omega
end Go.Proofs.Ythjjkpkohhmgcaa

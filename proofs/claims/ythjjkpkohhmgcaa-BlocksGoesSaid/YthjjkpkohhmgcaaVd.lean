/- Blocks: two ways compared. -/
import Derived.Test.YthjjkpkohhmgcaaVc
import Derived.Test.YthjjkpkohhmgcaaShelf
namespace Go.Proofs.Ythjjkpkohhmgcaa
open Go.RowKit Go.Proofs.YthjjkpkohhmgcaaW.PrintWords

/-- How two ways stand. -/
def cmpW (x y : Int × Int) : Int := if Lib.compareInt x.1 y.1 = 0 then Lib.compareInt x.2 y.2 else Lib.compareInt x.1 y.1
theorem compareInt_zero (a b : Int) : Lib.compareInt a b = 0 ↔ a = b := by
  unfold Lib.compareInt
  by_cases h1 : a < b
  · simp [h1]; omega
  · by_cases h2 : b < a
    · simp [h1, h2]; omega
    · simp [h1, h2]; omega
theorem compareInt_lt (a b : Int) : Lib.compareInt a b < 0 ↔ a < b := by
  unfold Lib.compareInt
  by_cases h1 : a < b
  · simp [h1]
  · by_cases h2 : b < a <;> simp [h1, h2]
set_option maxRecDepth 100000 in
set_option maxHeartbeats 8000000 in
theorem compare2_any (g1 g2 : Nat) (x y : Int × Int) (w : World) (d1 : w.cell? ⟨g1, 0, none⟩ = some (.int .i64 x.1)) (d2 : w.cell? ⟨g1, 1, none⟩ = some (.int .i64 x.2)) (e1 : w.cell? ⟨g2, 0, none⟩ = some (.int .i64 y.1)) (e2 : w.cell? ⟨g2, 1, none⟩ = some (.int .i64 y.2)) :
    Calls Try.prog 41 #[.slice (some ⟨g1, 0, none⟩) 2 2, .slice (some ⟨g2, 0, none⟩) 2 2] w fun e w' => e = .returned (.int .i64 (cmpW x y)) ∧ w' = w := by
  obtain ⟨x1, x2⟩ := x
  obtain ⟨y1, y2⟩ := y
  have HC := hid (fun a b W => Try.cmp_Compare_int a b W)
  go_enter Try.func41, Try.ntmps41
  go_upto_region 2 with fail
  go_loopw [11] (fun iV wr => ∃ q : Nat, q ≤ 2 ∧ iV = .int .i64 q ∧ wr = w ∧ Hid (0 < q → Lib.compareInt x1 y1 = 0) ∧ Hid (1 < q → Lib.compareInt x2 y2 = 0)) (fun iV _ => 2 - (intOf iV).toNat)
  case atStart => exact ⟨0, by omega, rfl, rfl, fun h => absurd h (by omega), fun h => absurd h (by omega)⟩
  obtain ⟨q, hq, rfl, hw, HA, HB⟩ := hrel
  subst hw
  rcases (by omega : q = 0 ∨ q = 1 ∨ q = 2) with rfl | rfl | rfl
  · clear HA HB
    by_cases h0 : Lib.compareInt x1 y1 = 0
    · have HH := hid h0
      go_wp2_with (go_at_call 55; refine (HC.out _ _ _).mono ?_; rintro e w' ⟨rfl, rfl⟩; rw [HH.out])
      go_roundw
      case rel => exact ⟨1, by omega, by go_num, trivial, fun _ => HH.out, fun h => absurd h (by omega)⟩
      case measure => simp [intOf]
    · have HH := hid h0
      have b1 : (Lib.compareInt x1 y1 == 0) = false := by simp [h0]
      have b2 : (Lib.compareInt x1 y1 != 0) = true := by simp [h0]
      go_wp2_with (go_at_call 55; refine (HC.out _ _ _).mono ?_; rintro e w' ⟨rfl, rfl⟩)
      go_ret
      exact ⟨by unfold cmpW; rw [if_neg HH.out]; rfl, rfl⟩
  · have h1 := HA.out (by omega)
    have HH1 := hid h1
    clear HA HB h1
    by_cases h0 : Lib.compareInt x2 y2 = 0
    · have HH := hid h0
      go_wp2_with (go_at_call 55; refine (HC.out _ _ _).mono ?_; rintro e w' ⟨rfl, rfl⟩; rw [HH.out])
      go_roundw
      case rel => exact ⟨2, by omega, by go_num, trivial, fun _ => HH1.out, fun _ => HH.out⟩
      case measure => simp [intOf]
    · have HH := hid h0
      have b1 : (Lib.compareInt x2 y2 == 0) = false := by simp [h0]
      have b2 : (Lib.compareInt x2 y2 != 0) = true := by simp [h0]
      go_wp2_with (go_at_call 55; refine (HC.out _ _ _).mono ?_; rintro e w' ⟨rfl, rfl⟩)
      go_ret
      exact ⟨by unfold cmpW; rw [if_pos HH1.out]; rfl, rfl⟩
  · have HH1 := hid (HA.out (by omega))
    have HH2 := hid (HB.out (by omega))
    clear HA HB
    go_wp2_with fail
    go_ret
    exact ⟨by unfold cmpW; rw [if_pos HH1.out, HH2.out]; rfl, rfl⟩
end Go.Proofs.Ythjjkpkohhmgcaa

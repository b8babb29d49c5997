/- Blocks: Order, Back. -/
import Derived.Test.YthjjkpkohhmgcaaVi
namespace Go.Proofs.Ythjjkpkohhmgcaa
open Go.RowKit Go.Proofs.YthjjkpkohhmgcaaW.PrintWords

/-- The ways back, sorted, each once. -/
structure IsBack (L : List Bk) (bk : List (Int × Int)) : Prop where
  mem : ∀ q : Int × Int, q ∈ bk ↔ q ∈ ways (lookS L).back
  sorted : bk.Pairwise LexW
def OrderPost (L : List Bk) (w : World) (e : Ending) (w' : World) : Prop :=
  Below w.heap.size w w' ∧ ((checkE L ≠ 0 ∧ e = .returned (.tuple #[.slice none 0 0, .int .i64 (checkE L)])) ∨ (May 20000 L ∧ ∃ A1 c1, e = .returned (.tuple #[.slice A1 (lookS L).done.length c1, .int .i64 0]) ∧ kI.C w' A1 (lookS L).done.length (ints (lookS L).done.reverse)))
def BackPost (L : List Bk) (w : World) (e : Ending) (w' : World) : Prop :=
  Below w.heap.size w w' ∧ ((checkE L ≠ 0 ∧ e = .returned (.tuple #[.slice none 0 0, .int .i64 (checkE L)])) ∨ (May 20000 L ∧ ∃ A2 c2 bk, e = .returned (.tuple #[.slice A2 bk.length c2, .int .i64 0]) ∧ kW.C w' A2 bk.length bk ∧ IsBack L bk))
theorem field0 (a b : Option Addr) (n c m d : Nat) (W : World) : (Instr.field 54 (.agg #[.slice a n c, .slice b m d]) 0).run Try.prog W = .ok (.slice a n c) W := by kernel_rfl
theorem field1 (a b : Option Addr) (n c m d : Nat) (W : World) : (Instr.field 54 (.agg #[.slice a n c, .slice b m d]) 1).run Try.prog W = .ok (.slice b m d) W := by kernel_rfl
set_option maxRecDepth 100000 in
set_option maxHeartbeats 4000000 in
theorem order_any (A : Option Addr) (c : Nat) (L : List Bk) (w : World) (hL : kB.C w A L.length L) (hb : L.length * 48 ≤ 140737488355328) : Calls Try.prog 12 #[.slice A L.length c] w (OrderPost L w) := by
  have HC := hid (check_any A c L w hL hb)
  have q0 := field0
  have q1 := field1
  have HK := hid hL
  clear hL hb
  generalize hz : checkE L = z at *
  have HZ := hid hz
  clear hz
  by_cases h0 : z = 0
  · have HM := hid ((checkE_may L).1 (HZ.out.trans h0))
    subst h0
    obtain ⟨lb, lo, eA⟩ := C_plain HK.out HM.out.pos (by decide)
    subst eA
    have HLK := hid (fun W (hB : Below w.heap.size w W) => lookThrough_any lb lo c L W (Kd.C_below HK.out hB) HM.out)
    generalize hN : L.length = N at *
    go_enter Try.func12, Try.ntmps12
    go_upto_region 4 with (go_at_call 24; refine HC.out.mono ?_; rintro e w1 ⟨rfl, hB⟩; have HB := hid hB; clear hB)
    go_wp2_with (go_at_call 25; refine (HLK.out _ HB.out).mono ?_; rintro e w2 ⟨A1, c1, A2, c2, bk, rfl, p1, p2, p3, p4, p5, p6, p7⟩; have P1 := hid p1; have P6 := hid p6; clear p1 p2 p3 p4 p5 p6 p7)
    go_ret2
    exact ⟨below_step HB.out P6.out, .inr ⟨HM.out, _, _, rfl, P1.out⟩⟩
  · have b1 : (z != 0) = true := by simp [h0]
    have b2 : (z == 0) = false := by simp [h0]
    go_enter Try.func12, Try.ntmps12
    go_wp2_with (go_at_call 24; refine HC.out.mono ?_; rintro e w1 ⟨rfl, hB⟩; have HB := hid hB; clear hB)
    go_ret2
    exact ⟨HB.out, .inl ⟨by rw [HZ.out]; exact h0, by rw [HZ.out]; rfl⟩⟩
set_option maxRecDepth 100000 in
set_option maxHeartbeats 4000000 in
theorem back_any (A : Option Addr) (c : Nat) (L : List Bk) (w : World) (hL : kB.C w A L.length L) (hb : L.length * 48 ≤ 140737488355328) : Calls Try.prog 14 #[.slice A L.length c] w (BackPost L w) := by
  have HC := hid (check_any A c L w hL hb)
  have q0 := field0
  have q1 := field1
  have HK := hid hL
  clear hL hb
  generalize hz : checkE L = z at *
  have HZ := hid hz
  clear hz
  by_cases h0 : z = 0
  · have HM := hid ((checkE_may L).1 (HZ.out.trans h0))
    subst h0
    obtain ⟨lb, lo, eA⟩ := C_plain HK.out HM.out.pos (by decide)
    subst eA
    have HLK := hid (fun W (hB : Below w.heap.size w W) => lookThrough_any lb lo c L W (Kd.C_below HK.out hB) HM.out)
    generalize hN : L.length = N at *
    go_enter Try.func14, Try.ntmps14
    go_upto_region 4 with (go_at_call 24; refine HC.out.mono ?_; rintro e w1 ⟨rfl, hB⟩; have HB := hid hB; clear hB)
    go_wp2_with (go_at_call 25; refine (HLK.out _ HB.out).mono ?_; rintro e w2 ⟨A1, c1, A2, c2, bk, rfl, p1, p2, p3, p4, p5, p6, p7⟩; have P2 := hid p2; have P3 := hid p3; have P4 := hid p4; have P6 := hid p6; clear p1 p2 p3 p4 p5 p6 p7)
    go_ret2
    exact ⟨below_step HB.out P6.out, .inr ⟨HM.out, _, _, bk, rfl, P2.out, P3.out, P4.out⟩⟩
  · have b1 : (z != 0) = true := by simp [h0]
    have b2 : (z == 0) = false := by simp [h0]
    go_enter Try.func14, Try.ntmps14
    go_wp2_with (go_at_call 24; refine HC.out.mono ?_; rintro e w1 ⟨rfl, hB⟩; have HB := hid hB; clear hB)
    go_ret2
    exact ⟨HB.out, .inl ⟨by rw [HZ.out]; exact h0, by rw [HZ.out]; rfl⟩⟩
end Go.Proofs.Ythjjkpkohhmgcaa

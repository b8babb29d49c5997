/- Blocks: slices.Repeat at one number. -/
import Derived.Test.YthjjkpkohhmgcaaVk
import Derived.Laws.CopyRow
namespace Go.Proofs.Ythjjkpkohhmgcaa
open Go.RowKit Go.Proofs.YthjjkpkohhmgcaaW.PrintWords

def rpt (n k : Nat) : Array Value := (List.replicate k (Value.int .i64 (-1)) ++ List.replicate (n - k) (Value.int .i64 0)).toArray
theorem rpt_size {n k : Nat} (h : k ≤ n) : (rpt n k).size = n := by simp [rpt]; omega
theorem rpt_more {n k m : Nat} : ((rpt n k).toList.take k ++ List.replicate m (Value.int .i64 (-1)) ++ (rpt n k).toList.drop (k + (List.replicate m (Value.int .i64 (-1))).length)).toArray = rpt n (k + m) := by
  apply Array.toList_inj.1
  show (rpt n k).toList.take k ++ List.replicate m (Value.int .i64 (-1)) ++ (rpt n k).toList.drop (k + (List.replicate m (Value.int .i64 (-1))).length) = List.replicate (k + m) (Value.int .i64 (-1)) ++ List.replicate (n - (k + m)) (Value.int .i64 0)
  have e : (rpt n k).toList = List.replicate k (Value.int .i64 (-1)) ++ List.replicate (n - k) (Value.int .i64 0) := rfl
  rw [e, List.length_replicate, List.take_left' (by simp), List.drop_append, List.drop_of_length_le (by simp), List.drop_replicate, List.replicate_append_replicate]
  simp
  omega
theorem copy_rpt (w : World) (ty : TypeId) (g n k sCap dCap : Nat) (a : Addr) (m : Nat) (sLen : Nat) (hg : w.heap[g]? = some (.cells (rpt n k) 3 (0, 0))) (hm : m = Nat.min sLen (n - k)) (hk : k ≤ n) (hsrc : ∀ j, j < m → w.cell? (a.add j) = some (.int .i64 (-1))) :
    (Builtin.copy_ #[27, 27] ty #[.slice (some ⟨g, k, none⟩) (n - k) dCap, .slice (some a) sLen sCap]).run Try.prog w = .ok (goInt m) (w.setRow g (rpt n (k + m))) := by
  have hle : m ≤ n - k := by rw [hm]; exact Nat.min_le_right _ _
  have := run_copy_row (P := Try.prog) w 27 27 ty 3 g k (n - k) dCap a sLen sCap (rpt n k) 3 (List.replicate m (.int .i64 (-1))) Try.underlying27 (by kernel_rfl) hg (by simpa using hm) (fun j v hv => by
    have hj : j < m := by have := (List.getElem?_eq_some_iff.1 hv).1; simpa using this
    have : v = .int .i64 (-1) := by simp [hj] at hv; exact hv.symm
    rw [this]; exact hsrc j hj) (by rw [rpt_size hk]; simp; omega) (fun v hv => by rw [List.eq_of_mem_replicate hv]; rfl)
  rw [this, rpt_more]
  simp
theorem below_row {B g : Nat} {w0 w : World} (hb : Below B w0 w) (hg : B ≤ g) (cs : Array Value) : Below B w0 (w.setRow g cs) :=
  ⟨hb.os, hb.tape, hb.output, by simp only [World.setRow, Array.size_modify]; exact hb.size, fun k hk => by rw [← hb.block k hk]; simp [World.setRow, Array.getElem?_modify, show g ≠ k by omega]⟩
theorem row_cell {w : World} {g n k j : Nat} (h : w.heap[g]? = some (.cells (rpt n k) 3 (0, 0))) (hj : j < k) : w.cell? ⟨g, j, none⟩ = some (.int .i64 (-1)) := by
  rw [blk_cell h]
  simp [rpt, List.getElem?_append_left, hj]
set_option maxRecDepth 100000 in
set_option maxHeartbeats 8000000 in
theorem repeat_any (g0 n : Nat) (w : World) (hn : 0 < n) (hb : n ≤ 8192) (hc : w.cell? ⟨g0, 0, none⟩ = some (.int .i64 (-1))) :
    Calls Try.prog 28 #[.slice (some ⟨g0, 0, none⟩) 1 1, .int .i64 n] w fun e w' => ∃ g, e = .returned (.slice (some ⟨g, 0, none⟩) n n) ∧ w.heap.size ≤ g ∧ w'.heap[g]? = some (.cells (rpt n n) 3 (0, 0)) ∧ Below w.heap.size w w' := by
  have hmk := mk_ints n hb
  have hMul := hid (fun W => (show Calls Try.prog 44 #[.int .u64 1, .int .u64 (n : Int)] W fun e w' => e = .returned (.tuple #[.int .u64 0, .int .u64 (n : Int)]) ∧ w' = W by
    have := Try.bits_Mul 1 n (by omega) (by omega) W
    rw [Nat.one_mul, Nat.div_eq_of_lt (by omega), Nat.mod_eq_of_lt (by omega)] at this
    exact this))
  have u1 : IntKind.u64.wrap (n : Int) = (n : Int) := IntWalk.u64_in _ (by omega)
  have u2 : IntKind.i64.wrap (n : Int) = (n : Int) := IntWalk.i64_in _ (by omega)
  have l0 : ¬ ((n : Int) < 0) := by omega
  have l1 : ¬ ((9223372036854775807 : Int) < (n : Int)) := by omega
  go_enter Try.func28, Try.ntmps28
  go_upto_region 7 with (go_at_call 44; refine (hMul.out _).mono ?_; rintro e w1 ⟨rfl, rfl⟩)
  have K0 := blk_new w1 (.cells (Array.replicate n (.int .i64 0)) 3)
  rw [show Array.replicate n (Value.int .i64 0) = rpt n 0 by simp [rpt]] at K0 ⊢
  have B0 := hid (below_alloc (Below.refl w1.heap.size w1) (.cells (rpt n 0) 3))
  have c0 : (w1.alloc (.cells (rpt n 0) 3)).cell? ⟨g0, 0, none⟩ = some (.int .i64 (-1)) := (B0.out.cell (World.block_lt_of_cell? w1 _ hc)).trans hc
  have HBS := hid (Nat.le_refl w1.heap.size)
  generalize hgg : w1.heap.size = g at *
  have HGG := hid hgg
  clear hgg hmk hc hMul
  generalize w1.alloc (.cells (rpt n 0) 3) = w2 at *
  have q1 := fun ty => copy_rpt w2 ty g n 0 1 n ⟨g0, 0, none⟩ 1 1 K0 (by rw [Nat.sub_zero]; show 1 = min 1 n; omega) (Nat.zero_le _) (fun j hj => by
    obtain rfl : j = 0 := by omega
    exact c0)
  rw [Nat.sub_zero, Nat.zero_add] at q1
  have K1 := hid (setRow_heap w2 g _ (rpt n 1) _ _ K0)
  have B1 := hid (below_row B0.out (Nat.le_refl g) (rpt n 1))
  clear K0 c0 B0 HBS
  go_upto_region 8 with fail
  generalize w2.setRow g (rpt n 1) = w3 at *
  clear q1
  go_loopw [8] (fun kV wr => ∃ k : Nat, 0 < k ∧ k ≤ n ∧ kV = .int .i64 k ∧ Hid (wr.heap[g]? = some (.cells (rpt n k) 3 (0, 0))) ∧ Hid (Below g w1 wr)) (fun kV _ => n - (intOf kV).toNat)
  case atStart => exact ⟨1, by omega, by omega, by first | rfl | simp [goInt], K1, B1⟩
  obtain ⟨k, hk0, hk, rfl, HK, HB⟩ := hrel
  by_cases hlt : k < n
  · have lk : (k : Int) < n := by omega
    have lk2 : (k : Int) ≤ n := by omega
    obtain ⟨m, hm⟩ : ∃ m, m = Nat.min k (n - k) := ⟨_, rfl⟩
    have hm1 : 0 < m ∧ m ≤ k ∧ m ≤ n - k := by
      rw [hm]
      refine ⟨?_, Nat.min_le_left _ _, Nat.min_le_right _ _⟩
      have : Nat.min k (n - k) = min k (n - k) := rfl
      omega
    have q2 := fun ty => copy_rpt wr.drew ty g n k n (n - k) ⟨g, 0, none⟩ m k (blk_drew HK.out) hm hk (fun j hj => by
      rw [add_off, Nat.zero_add]
      exact row_cell (blk_drew HK.out) (by omega))
    have K2 := hid (setRow_heap wr.drew g _ (rpt n (k + m)) _ _ (blk_drew HK.out))
    have B2 := hid (below_row (below_drew HB.out) (Nat.le_refl g) (rpt n (k + m)))
    have HM := hid hm1
    have wkm : IntKind.i64.wrap ((k : Int) + m) = (k : Int) + m := IntWalk.i64_in _ (by omega)
    clear hm hm1
    go_wp2_with fail
    go_region
    generalize wr.drew.setRow g (rpt n (k + m)) = w5 at *
    clear q2
    go_wp2_with fail
    go_roundw
    case rel => exact ⟨k + m, by omega, by have := HM.out; omega, by go_num, K2, B2⟩
    case measure => have := HM.out; simp [intOf]; omega
  · obtain rfl : k = n := by omega
    go_wp2_with fail
    go_ret
    exact ⟨g, rfl, Nat.le_of_eq HGG.out, HK.out, by rw [HGG.out]; exact HB.out⟩
end Go.Proofs.Ythjjkpkohhmgcaa

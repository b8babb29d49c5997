/- descr.Words, Val, WriteType, Elem, Over. -/
import Derived.Test.YtcaepnbamnicmaaDoorDa
namespace Go.Proofs.YtcaepnbamnicmaaDoor
open Go.RowKit

def wordsOf (k : Int) : Int := if k = 2 then 2 else if 1 ≤ k ∧ k ≤ 6 then 1 else 0
def valOf (k : Int) : Int := if k = 1 then 1 else if k = 2 then 2 else if 3 ≤ k ∧ k ≤ 6 then 3 else 0

theorem sign_cell (j f : Nat) (hj : j < 6) (hf : f < 6) : signCells[j * 6 + f]? = (rowOf j)[f]? := by
  have : ∀ j : Fin 6, ∀ f : Fin 6, signCells[j.val * 6 + f.val]? = (rowOf j.val)[f.val]? := by
    intro j f
    match j, f with
    | 0, 0 => rfl
    | 0, 1 => rfl
    | 0, 2 => rfl
    | 0, 3 => rfl
    | 0, 4 => rfl
    | 0, 5 => rfl
    | 1, 0 => rfl
    | 1, 1 => rfl
    | 1, 2 => rfl
    | 1, 3 => rfl
    | 1, 4 => rfl
    | 1, 5 => rfl
    | 2, 0 => rfl
    | 2, 1 => rfl
    | 2, 2 => rfl
    | 2, 3 => rfl
    | 2, 4 => rfl
    | 2, 5 => rfl
    | 3, 0 => rfl
    | 3, 1 => rfl
    | 3, 2 => rfl
    | 3, 3 => rfl
    | 3, 4 => rfl
    | 3, 5 => rfl
    | 4, 0 => rfl
    | 4, 1 => rfl
    | 4, 2 => rfl
    | 4, 3 => rfl
    | 4, 4 => rfl
    | 4, 5 => rfl
    | 5, 0 => rfl
    | 5, 1 => rfl
    | 5, 2 => rfl
    | 5, 3 => rfl
    | 5, 4 => rfl
    | 5, 5 => rfl
  exact this ⟨j, hj⟩ ⟨f, hf⟩
theorem Sg.field {w : World} (h : Sg w) (j f : Nat) (v : Value) (hj : j < 6) (hf : f < 6) (hv : (rowOf j)[f]? = some v) : w.cell? ⟨0, j * 6 + f, none⟩ = some v :=
  h.cells _ _ ((sign_cell j f hj hf).trans hv)
theorem findK_in {k : Int} (h : 1 ≤ k ∧ k ≤ 6) : findK k = k - 1 := by unfold findK; rw [if_pos h]
theorem findK_lo {k : Int} (h : 1 ≤ k ∧ k ≤ 6) : 0 ≤ findK k := by rw [findK_in h]; omega
theorem findK_hi {k : Int} (h : 1 ≤ k ∧ k ≤ 6) : findK k < 6 := by rw [findK_in h]; omega

set_option maxHeartbeats 1000000 in
theorem words_any (k : Int) (n : ByteArray) (w : World) (hS : Sg w) :
    Calls Tryd.prog 37 #[.agg #[.int .i64 k, .string n]] w fun e w' => e = .returned (.int .i64 (wordsOf k)) ∧ Below w.heap.size w w' := by
  have HS := hid hS
  clear hS
  by_cases hk : 1 ≤ k ∧ k ≤ 6
  · have h1 := findK_lo hk
    have h2 := findK_hi hk
    have HK := hid hk
    clear hk
    go_enter Tryd.func37, Tryd.ntmps37
    go_wp2_with (go_at_call 48; refine (find_any _ _ (HS.out.alloc _)).mono ?_; rintro e w' ⟨rfl, hb⟩; have HS' := hid ((HS.out.alloc (.cells #[.int .i64 k, .string n] 23)).below (by simp) hb); have hc := HS'.out.field (findK k).toNat 4 (.int .i64 (wds (findK k).toNat)) (by omega) (by omega) rfl)
    go_ret
    refine ⟨ret_int ?_, ((Below.refl _ _).alloc (Nat.le_refl _) _).trans (hb.mono (by simp))⟩
    obtain ⟨a, b⟩ := HK.out
    rw [findK_in ⟨a, b⟩]
    have : k = 1 ∨ k = 2 ∨ k = 3 ∨ k = 4 ∨ k = 5 ∨ k = 6 := by omega
    rcases this with rfl | rfl | rfl | rfl | rfl | rfl <;> rfl
  · have HK := hid hk
    clear hk
    go_enter Tryd.func37, Tryd.ntmps37
    go_wp2_with (go_at_call 48; refine (find_any _ _ (HS.out.alloc _)).mono ?_; rintro e w' ⟨rfl, hb⟩; rw [findK_out HK.out])
    go_ret
    refine ⟨ret_int ?_, ((Below.refl _ _).alloc (Nat.le_refl _) _).trans (hb.mono (by simp))⟩
    have := HK.out
    unfold wordsOf
    rw [if_neg (by omega), if_neg (by omega)]

set_option maxHeartbeats 1000000 in
theorem val_any (k : Int) (n : ByteArray) (w : World) (hS : Sg w) :
    Calls Tryd.prog 39 #[.agg #[.int .i64 k, .string n]] w fun e w' => e = .returned (.int .i64 (valOf k)) ∧ Below w.heap.size w w' := by
  have HS := hid hS
  clear hS
  by_cases hk : 1 ≤ k ∧ k ≤ 6
  · have h1 := findK_lo hk
    have h2 := findK_hi hk
    have HK := hid hk
    clear hk
    go_enter Tryd.func39, Tryd.ntmps39
    go_wp2_with (go_at_call 48; refine (find_any _ _ (HS.out.alloc _)).mono ?_; rintro e w' ⟨rfl, hb⟩; have HS' := hid ((HS.out.alloc (.cells #[.int .i64 k, .string n] 23)).below (by simp) hb); have hc := HS'.out.field (findK k).toNat 5 (.int .i64 (vl (findK k).toNat)) (by omega) (by omega) rfl)
    go_ret
    refine ⟨ret_int ?_, ((Below.refl _ _).alloc (Nat.le_refl _) _).trans (hb.mono (by simp))⟩
    obtain ⟨a, b⟩ := HK.out
    rw [findK_in ⟨a, b⟩]
    have : k = 1 ∨ k = 2 ∨ k = 3 ∨ k = 4 ∨ k = 5 ∨ k = 6 := by omega
    rcases this with rfl | rfl | rfl | rfl | rfl | rfl <;> rfl
  · have HK := hid hk
    clear hk
    go_enter Tryd.func39, Tryd.ntmps39
    go_wp2_with (go_at_call 48; refine (find_any _ _ (HS.out.alloc _)).mono ?_; rintro e w' ⟨rfl, hb⟩; rw [findK_out HK.out])
    go_ret
    refine ⟨ret_int ?_, ((Below.refl _ _).alloc (Nat.le_refl _) _).trans (hb.mono (by simp))⟩
    have := HK.out
    unfold valOf
    rw [if_neg (by omega), if_neg (by omega), if_neg (by omega)]

/-- A type's text. -/
def tyText (t : Ty) : ByteArray := bef (t.k - 1).toNat ++ t.n ++ aft (t.k - 1).toNat

theorem tyOk_range {t : Ty} (h : tyOk t = true) : 1 ≤ t.k ∧ t.k ≤ 6 := by
  unfold tyOk at h
  split at h
  · omega
  · simp at h; omega

theorem isName_size {s : ByteArray} (h : isName s = true) : 1 ≤ s.size ∧ s.size ≤ 64 := by
  by_cases h0 : s.size = 0
  · have : s.data.toList = [] := List.eq_nil_of_length_eq_zero (by rw [dataLen]; exact h0)
    unfold isName at h
    rw [this] at h
    cases h
  · rw [isName_of s (by omega)] at h
    simp at h
    omega
theorem tyOk_size {t : Ty} (h : tyOk t = true) : t.n.size ≤ 64 := by
  unfold tyOk at h
  split at h
  · exact (isName_size h).2
  · simp only [Bool.and_eq_true, decide_eq_true_eq] at h
    omega
theorem bef_size (j : Nat) : (bef j).size ≤ 2 := by
  unfold bef
  split <;> simp [ByteArray.size]
theorem aft_size (j : Nat) : (aft j).size ≤ 1 := by
  unfold aft
  split <;> simp [ByteArray.size]

set_option maxHeartbeats 1000000 in
theorem writeType_no (k : Int) (n : ByteArray) (w : World) (hS : Sg w) (hk : tyOk ⟨k, n⟩ = false) :
    Calls Tryd.prog 20 #[.agg #[.int .i64 k, .string n]] w fun e w' => e = .returned (.tuple #[.string ⟨#[]⟩, .int .i64 2]) ∧ Below w.heap.size w w' := by
  have HS := hid hS
  have HK := hid hk
  clear hS hk
  go_enter Tryd.func20, Tryd.ntmps20
  go_wp2_with (go_at_call 21; refine (checkType_any ⟨k, n⟩ _ (HS.out.alloc _)).mono ?_; rintro e w' ⟨rfl, hb⟩; rw [HK.out, show errOf false = 2 from rfl])
  go_ret2
  exact ⟨rfl, ((Below.refl _ _).alloc (Nat.le_refl _) _).trans (hb.mono (by simp))⟩

set_option maxHeartbeats 1000000 in
theorem writeType_yes (k : Int) (n : ByteArray) (w : World) (hS : Sg w) (hk : tyOk ⟨k, n⟩ = true) :
    Calls Tryd.prog 20 #[.agg #[.int .i64 k, .string n]] w fun e w' => e = .returned (.tuple #[.string (tyText ⟨k, n⟩), .int .i64 0]) ∧ Below w.heap.size w w' := by
  have HS := hid hS
  have HK := hid hk
  have hr := tyOk_range hk
  simp only at hr
  have h1 := findK_lo hr
  have h2 := findK_hi hr
  have h3 := tyOk_size hk
  simp only at h3
  have h4 := bef_size (findK k).toNat
  have h5 := aft_size (findK k).toNat
  have HT0 : Hid (tyText ⟨k, n⟩ = bef (findK k).toNat ++ n ++ aft (findK k).toNat) := by unfold tyText; rw [findK_in hr]; rfl
  clear hS hk hr
  go_enter Tryd.func20, Tryd.ntmps20
  go_wp2_with (first | (go_at_call 21; refine (checkType_any ⟨k, n⟩ _ (HS.out.alloc _)).mono ?_; rintro e w' ⟨rfl, hb⟩; rw [HK.out, show errOf true = 0 from rfl]; have HS' := hid ((HS.out.alloc (.cells #[.int .i64 k, .string n] 23)).below (by simp) hb); have hk0 := cell_later' (a := ⟨w.heap.size, 0, none⟩) (v := .int .i64 k) hb (by simp); have hn0 := cell_later' (a := ⟨w.heap.size, 1, none⟩) (v := .string n) hb (by simp); have hB : Below w.heap.size w w' := ((Below.refl _ _).alloc (Nat.le_refl _) _).trans (hb.mono (by simp)); clear hb) | (go_at_call 48; refine (find_any _ _ HS'.out).mono ?_; rintro e w2 ⟨rfl, hb⟩; have hn1 := cell_later' hb hn0; have hz : w.heap.size < w2.heap.size := World.block_lt_of_cell? _ _ hn1; have HT := hid (HS'.out.below HS'.out.lt hb); have hc0 : w2.cell? ⟨0, (findK k).toNat * 6, none⟩ = some (.int .i64 ((findK k).toNat + 1)) := HT.out.field (findK k).toNat 0 (.int .i64 ((findK k).toNat + 1)) (by omega) (by omega) rfl; have hc1 := HT.out.field (findK k).toNat 1 (.string (bef (findK k).toNat)) (by omega) (by omega) rfl; have hc2 := HT.out.field (findK k).toNat 2 (.string (aft (findK k).toNat)) (by omega) (by omega) rfl; have hc3 := HT.out.field (findK k).toNat 3 (.bool (nmd (findK k).toNat)) (by omega) (by omega) rfl; have hc4 := HT.out.field (findK k).toNat 4 (.int .i64 (wds (findK k).toNat)) (by omega) (by omega) rfl; have hc5 := HT.out.field (findK k).toNat 5 (.int .i64 (vl (findK k).toNat)) (by omega) (by omega) rfl; have hB2 := hB.trans (hb.mono hB.size); clear hb hn0 hB))
  go_ret2
  exact ⟨by rw [HT0.out]; rfl, hB2.alloc hB2.size _⟩

end Go.Proofs.YtcaepnbamnicmaaDoor
